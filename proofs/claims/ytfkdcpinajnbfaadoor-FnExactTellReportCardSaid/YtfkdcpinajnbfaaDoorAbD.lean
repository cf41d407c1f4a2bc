/- an abstract interpreter for the model's code is sound: draws, arrays loaded, further operations.
   Conditions: none. -/
import Derived.Test.YtfkdcpinajnbfaaDoorAbC
import Derived.ChangeMaps4
import Derived.Orders
import Derived.Deep.MidRow
set_option linter.unusedVariables false
set_option linter.unusedSimpArgs false
namespace Go.Ab

def ovD (P : Program) (M : Mem) : Ov := fun h ρ op => match op with
  | .binOp .rem t x y _ => match ρ x, ρ y with
    | some (.int k a), some (.int k2 b) => if k = k2 then some (uAct [] [] fun _ => (.int k (a.tmod b), [], []), [(decide (b = 0), false)]) else none
    | _, _ => none
  | .binOp .quo t x y _ => match ρ x, ρ y with
    | some (.int k a), some (.int k2 b) => if k = k2 then some (uAct [] [] fun _ => (.int k (k.wrap (a.tdiv b)), [], []), [(decide (b = 0), false)]) else none
    | _, _ => none
  | op => ovR P M h ρ op

theorem ovD_ok (P : Program) (M : Mem) : OvOk P M (ovD P M) := by
  intro K cl h ρ op act p hov hp
  unfold ovD at hov
  split at hov
  · rename_i t x y tt
    split at hov
    · rename_i k a k2 b hx hy
      split at hov
      · rename_i hk
        subst hk
        cases hov
        rw [held_one_iff, decide_eq_false_iff_not] at hp
        refine ⟨pureAct (.int k (a.tmod b)), ?_, uAct_same rfl rfl (gather_nil h) (gather_nil h) fun b => rfl⟩
        have hb : bo P .rem t x y (.int k a) (.int k b) = some (.int k (a.tmod b)) := by
          have e : (do eqGuard .rem t x y (.int k a) (.int k b); binOp .rem t (.int k a) (.int k b) : Sem Value) = pure (.int k (a.tmod b)) := by
            rw [eqGuard_rem, binOp_rem]
            unfold Op.intDiv
            rw [if_neg hp]
            rfl
          unfold bo
          simp only [e]
          rfl
        simp only [opAct, pv, hx, hy, ground, Bool.and_self, if_true, hb]
      · cases hov
    · cases hov
  · rename_i t x y tt
    split at hov
    · rename_i k a k2 b hx hy
      split at hov
      · rename_i hk
        subst hk
        cases hov
        rw [held_one_iff, decide_eq_false_iff_not] at hp
        refine ⟨pureAct (.int k (k.wrap (a.tdiv b))), ?_, uAct_same rfl rfl (gather_nil h) (gather_nil h) fun b => rfl⟩
        have hb : bo P .quo t x y (.int k a) (.int k b) = some (.int k (k.wrap (a.tdiv b))) := by
          have e : (do eqGuard .quo t x y (.int k a) (.int k b); binOp .quo t (.int k a) (.int k b) : Sem Value) = pure (.int k (k.wrap (a.tdiv b))) := by
            rw [eqGuard_quo, binOp_quo]
            unfold Op.intDiv
            rw [if_neg hp]
            rfl
          unfold bo
          simp only [e]
          rfl
        simp only [opAct, pv, hx, hy, ground, Bool.and_self, if_true, hb]
      · cases hov
    · cases hov
  · exact ovR_ok P M K cl h ρ _ act p hov hp

/-! ### The source of draws -/
/-- What is drawn of k. -/
def nK (k x : Int) : Int := if k ≤ 1 then 0 else nR x k
theorem nK_range {k x : Int} (hx : 0 ≤ x) (h1 : 1 ≤ k) (h2 : k ≤ 4611686018427387904) : 0 ≤ nK k x ∧ nK k x < k := by
  unfold nK
  split
  · omega
  · exact nR_range hx (by omega) h2

/-- The source's number and place behind one draw. -/
def nextC (M : Mem) (u : Option Addr) (n : Nat) (p : Int × Int) : Int × Int := (nX p.1 (nC M u n p.2), nI n p.2)
def drawC (M : Mem) (u : Option Addr) (n : Nat) (p : Int × Int) : Nat → Int × Int
  | 0 => p
  | k + 1 => nextC M u n (drawC M u n p k)

theorem nI_ok {n : Nat} (hn : n ≤ 1048576) {i : Int} (h : 0 ≤ i) : 0 ≤ nI n i := by
  unfold nI
  split
  · rw [wrap_i64 (by omega) (by omega)]; omega
  · exact h
theorem drawC_ok {M : Mem} {u : Option Addr} {n : Nat} (hn : n ≤ 1048576) {p : Int × Int} (hp : 0 ≤ p.2) : ∀ k, 0 ≤ (drawC M u n p k).2 := by
  intro k
  induction k with
  | zero => exact hp
  | succ k ih => exact nI_ok hn ih
theorem drawC_x {M : Mem} {u : Option Addr} {n : Nat} {p : Int × Int} (k : Nat) : 0 ≤ (drawC M u n p (k + 1)).1 := (nX_has _ _).1

/-- The source's cells. -/
def srcC (u : Option (Nat × Nat)) (n c : Nat) (i x : Int) : List Value :=
  match u with
  | some (b, off) => [.slice (some ⟨b, off, none⟩) n c, .int .i64 i, .int .u64 x]
  | none => [.slice none 0 0, .int .i64 i, .int .u64 x]
def srcA (u : Option (Nat × Nat)) : Option Addr :=
  match u with
  | some (b, off) => some ⟨b, off, none⟩
  | none => none
def lenS (u : Option (Nat × Nat)) (n : Nat) : Nat :=
  match u with
  | some _ => n
  | none => 0

/-- One draw of whatever bound. -/
def nSumG (M : Mem) (f : FuncId) : Sum :=
  { f := f, ro := false
    S := fun args os => match args, os with
      | [.pointer (some ⟨0, 0, some 3⟩), .int .i64 k], [⟨[.slice (some ⟨b, off, none⟩) n c, .int .i64 i, .int .u64 x], g, e, false⟩] =>
          some (.int .i64 (nK k (nX x (nC M (some ⟨b, off, none⟩) n i))), [⟨[.slice (some ⟨b, off, none⟩) n c, .int .i64 (nI n i), .int .u64 (nX x (nC M (some ⟨b, off, none⟩) n i))], g, e, false⟩], [])
      | [.pointer (some ⟨0, 0, some 3⟩), .int .i64 k], [⟨[.slice none 0 0, .int .i64 i, .int .u64 x], g, e, false⟩] =>
          some (.int .i64 (nK k (nX x (nC M none 0 i))), [⟨[.slice none 0 0, .int .i64 (nI 0 i), .int .u64 (nX x (nC M none 0 i))], g, e, false⟩], [])
      | _, _ => none
    C := fun args os => match args, os with
      | [_, .int .i64 k], [⟨[.slice u n c, .int .i64 i, .int .u64 x], g, e, false⟩] => [(nOk M u n && decide (0 ≤ i), true), (decide (k ≤ 4611686018427387904), true)]
      | _, _ => [] }

theorem nSumG_sound {P : Program} {M : Mem} {f : FuncId} {fn : Func} (hf : P.funcs[f]? = some fn) (hn : (fn.name == "runtime.NumGoroutine") = false) (hb : fn.body.isSome = true)
    (hs1 : ∀ (b off n c : Nat) (i x k : Int) (g : Bool) (e : Nat), Held [(decide (i < (n : Int)), true), (inB i n, true), (roB .u8 M b (off + i.toNat * 1), true), (decide (k ≤ 1), false), (decide (IntKind.wrap .u64 k = 0), false)] →
      ACalls P M f [.pointer (some ⟨0, 0, some 3⟩), .int .i64 k] [⟨[.slice (some ⟨b, off, none⟩) n c, .int .i64 i, .int .u64 x], g, e, false⟩]
        (.int .i64 (nR (nX x (IntKind.wrap .u64 (IntKind.wrap .u64 (vint ((M b (off + i.toNat * 1)).getD undef)) + 1))) k))
        [⟨[.slice (some ⟨b, off, none⟩) n c, .int .i64 (IntKind.wrap .i64 (i + 1)), .int .u64 (nX x (IntKind.wrap .u64 (IntKind.wrap .u64 (vint ((M b (off + i.toNat * 1)).getD undef)) + 1)))], g, e, false⟩] [])
    (hs0 : ∀ (b off n c : Nat) (i x k : Int) (g : Bool) (e : Nat), Held [(decide (i < (n : Int)), true), (inB i n, true), (roB .u8 M b (off + i.toNat * 1), true), (decide (k ≤ 1), true)] →
      ACalls P M f [.pointer (some ⟨0, 0, some 3⟩), .int .i64 k] [⟨[.slice (some ⟨b, off, none⟩) n c, .int .i64 i, .int .u64 x], g, e, false⟩]
        (.int .i64 0)
        [⟨[.slice (some ⟨b, off, none⟩) n c, .int .i64 (IntKind.wrap .i64 (i + 1)), .int .u64 (nX x (IntKind.wrap .u64 (IntKind.wrap .u64 (vint ((M b (off + i.toNat * 1)).getD undef)) + 1)))], g, e, false⟩] [])
    (hn1 : ∀ (b off n c : Nat) (i x k : Int) (g : Bool) (e : Nat), Held [(decide (i < (n : Int)), false), (decide (k ≤ 1), false), (decide (IntKind.wrap .u64 k = 0), false)] →
      ACalls P M f [.pointer (some ⟨0, 0, some 3⟩), .int .i64 k] [⟨[.slice (some ⟨b, off, none⟩) n c, .int .i64 i, .int .u64 x], g, e, false⟩]
        (.int .i64 (nR (nX x 0) k)) [⟨[.slice (some ⟨b, off, none⟩) n c, .int .i64 i, .int .u64 (nX x 0)], g, e, false⟩] [])
    (hn0 : ∀ (b off n c : Nat) (i x k : Int) (g : Bool) (e : Nat), Held [(decide (i < (n : Int)), false), (decide (k ≤ 1), true)] →
      ACalls P M f [.pointer (some ⟨0, 0, some 3⟩), .int .i64 k] [⟨[.slice (some ⟨b, off, none⟩) n c, .int .i64 i, .int .u64 x], g, e, false⟩]
        (.int .i64 0) [⟨[.slice (some ⟨b, off, none⟩) n c, .int .i64 i, .int .u64 (nX x 0)], g, e, false⟩] [])
    (hz1 : ∀ (i x k : Int) (g : Bool) (e : Nat), Held [(decide (i < ((0 : Nat) : Int)), false), (decide (k ≤ 1), false), (decide (IntKind.wrap .u64 k = 0), false)] →
      ACalls P M f [.pointer (some ⟨0, 0, some 3⟩), .int .i64 k] [⟨[.slice none 0 0, .int .i64 i, .int .u64 x], g, e, false⟩] (.int .i64 (nR (nX x 0) k)) [⟨[.slice none 0 0, .int .i64 i, .int .u64 (nX x 0)], g, e, false⟩] [])
    (hz0 : ∀ (i x k : Int) (g : Bool) (e : Nat), Held [(decide (i < ((0 : Nat) : Int)), false), (decide (k ≤ 1), true)] →
      ACalls P M f [.pointer (some ⟨0, 0, some 3⟩), .int .i64 k] [⟨[.slice none 0 0, .int .i64 i, .int .u64 x], g, e, false⟩] (.int .i64 0) [⟨[.slice none 0 0, .int .i64 i, .int .u64 (nX x 0)], g, e, false⟩] []) : (nSumG M f).SoundC P M := by
  refine sumC_sound hf hn hb fun args os v os' ns hs hp => ?_
  have hu : ∀ k : Int, ¬ k ≤ 1 → k ≤ 4611686018427387904 → decide (IntKind.wrap .u64 k = 0) = false := fun k h1 h2 => by
    rw [decide_eq_false_iff_not, wrap_u64]; omega
  simp only [nSumG] at hs hp ⊢
  split at hs
  · rename_i k b off n c i x g e
    cases hs
    have h1 := hp (nOk M (some ⟨b, off, none⟩) n && decide (0 ≤ i), true) (List.Mem.head _)
    have h3 := hp (decide (k ≤ 4611686018427387904), true) (List.Mem.tail _ (List.Mem.head _))
    simp only [Bool.and_eq_true, decide_eq_true_eq] at h1 h3
    refine ⟨?_, fun h => by cases h⟩
    by_cases hi : i < (n : Int)
    · have e1 : nC M (some ⟨b, off, none⟩) n i = IntKind.wrap .u64 (IntKind.wrap .u64 (vint ((M b (off + i.toNat * 1)).getD undef)) + 1) := by simp only [nC, if_pos hi]
      have e2 : nI n i = IntKind.wrap .i64 (i + 1) := by simp only [nI, if_pos hi]
      have a1 : decide (i < (n : Int)) = true := by simpa using hi
      have a2 : inB i n = true := by rw [inB_iff]; exact ⟨h1.2, hi⟩
      have a3 : roB .u8 M b (off + i.toNat * 1) = true := by rw [Nat.mul_one]; exact nOk_at h1.1 h1.2 hi
      rw [e1, e2]
      by_cases hk : k ≤ 1
      · have : nK k (nX x (IntKind.wrap .u64 (IntKind.wrap .u64 (vint ((M b (off + i.toNat * 1)).getD undef)) + 1))) = 0 := by simp only [nK, if_pos hk]
        rw [this]
        exact hs0 b off n c i x k g e (held_cons a1 (held_cons a2 (held_cons a3 (held_one (by simpa using hk)))))
      · have : nK k (nX x (IntKind.wrap .u64 (IntKind.wrap .u64 (vint ((M b (off + i.toNat * 1)).getD undef)) + 1))) = nR (nX x (IntKind.wrap .u64 (IntKind.wrap .u64 (vint ((M b (off + i.toNat * 1)).getD undef)) + 1))) k := by simp only [nK, if_neg hk]
        rw [this]
        exact hs1 b off n c i x k g e (held_cons a1 (held_cons a2 (held_cons a3 (held_cons (by simpa using hk) (held_one (hu k hk h3))))))
    · have e1 : nC M (some ⟨b, off, none⟩) n i = 0 := by simp only [nC, if_neg hi]
      have e2 : nI n i = i := by simp only [nI, if_neg hi]
      have a1 : decide (i < (n : Int)) = false := by simpa using hi
      rw [e1, e2]
      by_cases hk : k ≤ 1
      · have : nK k (nX x 0) = 0 := by simp only [nK, if_pos hk]
        rw [this]
        exact hn0 b off n c i x k g e (held_cons a1 (held_one (by simpa using hk)))
      · have : nK k (nX x 0) = nR (nX x 0) k := by simp only [nK, if_neg hk]
        rw [this]
        exact hn1 b off n c i x k g e (held_cons a1 (held_cons (by simpa using hk) (held_one (hu k hk h3))))
  · rename_i k i x g e
    cases hs
    have h1 := hp (nOk M none 0 && decide (0 ≤ i), true) (List.Mem.head _)
    have h3 := hp (decide (k ≤ 4611686018427387904), true) (List.Mem.tail _ (List.Mem.head _))
    simp only [Bool.and_eq_true, decide_eq_true_eq] at h1 h3
    refine ⟨?_, fun h => by cases h⟩
    have hi : ¬ i < ((0 : Nat) : Int) := by have := h1.2; omega
    have e1 : nC M none 0 i = 0 := rfl
    have e2 : nI 0 i = i := by simp only [nI, if_neg hi]
    have a1 : decide (i < ((0 : Nat) : Int)) = false := by simpa using hi
    rw [e1, e2]
    by_cases hk : k ≤ 1
    · have : nK k (nX x 0) = 0 := by simp only [nK, if_pos hk]
      rw [this]
      exact hz0 i x k g e (held_cons a1 (held_one (by simpa using hk)))
    · have : nK k (nX x 0) = nR (nX x 0) k := by simp only [nK, if_neg hk]
      rw [this]
      exact hz1 i x k g e (held_cons a1 (held_cons (by simpa using hk) (held_one (hu k hk h3))))
  · cases hs

/-- Once in k. -/
def oneSumG (M : Mem) (f : FuncId) : Sum :=
  { f := f, ro := false
    S := fun args os => match args, os with
      | [.pointer (some ⟨0, 0, some 3⟩), .int .i64 k], [⟨[.slice (some ⟨b, off, none⟩) n c, .int .i64 i, .int .u64 x], g, e, false⟩] =>
          some (.bool (nK k (nX x (nC M (some ⟨b, off, none⟩) n i)) == 0), [⟨[.slice (some ⟨b, off, none⟩) n c, .int .i64 (nI n i), .int .u64 (nX x (nC M (some ⟨b, off, none⟩) n i))], g, e, false⟩], [])
      | [.pointer (some ⟨0, 0, some 3⟩), .int .i64 k], [⟨[.slice none 0 0, .int .i64 i, .int .u64 x], g, e, false⟩] =>
          some (.bool (nK k (nX x (nC M none 0 i)) == 0), [⟨[.slice none 0 0, .int .i64 (nI 0 i), .int .u64 (nX x (nC M none 0 i))], g, e, false⟩], [])
      | _, _ => none
    C := fun args os => match args, os with
      | [_, .int .i64 k], [⟨[.slice u n c, .int .i64 i, .int .u64 x], g, e, false⟩] => [(nOk M u n && decide (0 ≤ i), true), (decide (k ≤ 4611686018427387904), true)]
      | _, _ => [] }

theorem oneSumG_sound {P : Program} {M : Mem} {f : FuncId} {fn : Func} (hf : P.funcs[f]? = some fn) (hn : (fn.name == "runtime.NumGoroutine") = false) (hb : fn.body.isSome = true)
    (hs : ∀ (b off n c : Nat) (i x k : Int) (g : Bool) (e : Nat), Held [(nOk M (some ⟨b, off, none⟩) n && decide (0 ≤ i), true), (decide (k ≤ 4611686018427387904), true)] →
      ACalls P M f [.pointer (some ⟨0, 0, some 3⟩), .int .i64 k] [⟨[.slice (some ⟨b, off, none⟩) n c, .int .i64 i, .int .u64 x], g, e, false⟩]
        (.bool (nK k (nX x (nC M (some ⟨b, off, none⟩) n i)) == 0)) [⟨[.slice (some ⟨b, off, none⟩) n c, .int .i64 (nI n i), .int .u64 (nX x (nC M (some ⟨b, off, none⟩) n i))], g, e, false⟩] [])
    (hz : ∀ (i x k : Int) (g : Bool) (e : Nat), Held [(nOk M none 0 && decide (0 ≤ i), true), (decide (k ≤ 4611686018427387904), true)] →
      ACalls P M f [.pointer (some ⟨0, 0, some 3⟩), .int .i64 k] [⟨[.slice none 0 0, .int .i64 i, .int .u64 x], g, e, false⟩]
        (.bool (nK k (nX x (nC M none 0 i)) == 0)) [⟨[.slice none 0 0, .int .i64 (nI 0 i), .int .u64 (nX x (nC M none 0 i))], g, e, false⟩] []) : (oneSumG M f).SoundC P M := by
  refine sumC_sound hf hn hb fun args os v os' ns h hp => ?_
  simp only [oneSumG] at h hp ⊢
  split at h
  · cases h; exact ⟨hs _ _ _ _ _ _ _ _ _ hp, fun h => by cases h⟩
  · cases h; exact ⟨hz _ _ _ _ _ hp, fun h => by cases h⟩
  · cases h

end Go.Ab

namespace Go.Ab

/-- What one draw asks for. -/
def dPin (M : Mem) (u : Option Addr) (n : Nat) (p : Int × Int) (k : Int) : Pins := [(nOk M u n && decide (0 ≤ p.2), true), (decide (k ≤ 4611686018427387904), true)]
theorem dPin_held {M : Mem} {u : Option Addr} {n : Nat} {p : Int × Int} {k : Int} (hu : nOk M u n = true) (hp : 0 ≤ p.2) (hk : k ≤ 4611686018427387904) : Held (dPin M u n p k) :=
  held_cons (by rw [hu, Bool.true_and, decide_eq_true_eq]; exact hp) (held_one (by rw [decide_eq_true_eq]; exact hk))
theorem held_two {p q : Pins} (hp : Held p) (hq : Held q) : Held (p ++ q) := fun x hx => (List.mem_append.1 hx).elim (hp x) (hq x)
def dPins (M : Mem) (u : Option Addr) (n : Nat) (D : Nat → Int × Int) (k : Int) (a : Nat) : Nat → Pins
  | 0 => []
  | m + 1 => dPin M u n (D a) k ++ dPins M u n D k (a + 1) m
theorem dPins_held {M : Mem} {u : Option Addr} {n : Nat} {D : Nat → Int × Int} {k : Int} (hu : nOk M u n = true) (hD : ∀ j, 0 ≤ (D j).2) (hk : k ≤ 4611686018427387904) : ∀ m a, Held (dPins M u n D k a m) := by
  intro m
  induction m with
  | zero => intro a; exact held_nil
  | succ m ih => intro a; intro x hx; rcases List.mem_append.1 hx with h | h; exact dPin_held hu (hD a) hk x h; exact ih (a + 1) x h

theorem u8_wrap (n : Int) : IntKind.u8.has (IntKind.u8.wrap n) := by
  rw [wrap_u8]; show 0 ≤ _ ∧ _ ≤ (255 : Int); omega

/-- N bytes come. -/
def ArrP (P : Program) (M : Mem) (f : FuncId) (N : Nat) (u : Option (Nat × Nat)) (n c : Nat) (g : Bool) (e : Nat) (p : Int × Int) (r : (Nat → Int) × (Int × Int)) : Prop :=
  (∀ j, IntKind.u8.has (r.1 j)) ∧ 0 ≤ r.2.2 ∧ ACalls P M f [.pointer (some ⟨0, 0, some 3⟩)] [⟨srcC u n c p.2 p.1, g, e, false⟩] (.agg ⟨cellsI .u8 N r.1⟩) [⟨srcC u n c r.2.2 r.2.1, g, e, false⟩] []

noncomputable def arrR (P : Program) (M : Mem) (f : FuncId) (N : Nat) (u : Option (Nat × Nat)) (n c : Nat) (g : Bool) (e : Nat) (p : Int × Int) : (Nat → Int) × (Int × Int) :=
  @Classical.epsilon ((Nat → Int) × (Int × Int)) ⟨(fun _ => 0, (0, 0))⟩ (ArrP P M f N u n c g e p)

def srcOk (M : Mem) (u : Option Addr) (n : Nat) (i : Int) : Bool := nOk M u n && (decide (n ≤ 1048576) && decide (0 ≤ i))

noncomputable def arrSumG (P : Program) (M : Mem) (f : FuncId) (N : Nat) : Sum :=
  { f := f, ro := false
    S := fun args os => match args, os with
      | [.pointer (some ⟨0, 0, some 3⟩)], [⟨[.slice (some ⟨b, off, none⟩) n c, .int .i64 i, .int .u64 x], g, e, false⟩] =>
          some (.agg ⟨cellsI .u8 N (arrR P M f N (some (b, off)) n c g e (x, i)).1⟩, [⟨[.slice (some ⟨b, off, none⟩) n c, .int .i64 (arrR P M f N (some (b, off)) n c g e (x, i)).2.2, .int .u64 (arrR P M f N (some (b, off)) n c g e (x, i)).2.1], g, e, false⟩], [])
      | [.pointer (some ⟨0, 0, some 3⟩)], [⟨[.slice none 0 0, .int .i64 i, .int .u64 x], g, e, false⟩] =>
          some (.agg ⟨cellsI .u8 N (arrR P M f N none 0 0 g e (x, i)).1⟩, [⟨[.slice none 0 0, .int .i64 (arrR P M f N none 0 0 g e (x, i)).2.2, .int .u64 (arrR P M f N none 0 0 g e (x, i)).2.1], g, e, false⟩], [])
      | _, _ => none
    C := fun args os => match os with
      | [⟨[.slice u n c, .int .i64 i, .int .u64 x], g, e, false⟩] => [(srcOk M u n i, true)]
      | _ => [] }

def ArrX (P : Program) (M : Mem) (f : FuncId) (N : Nat) : Prop := ∀ (u : Option (Nat × Nat)) (n c : Nat) (g : Bool) (e : Nat) (p : Int × Int), srcOk M (srcA u) (lenS u n) p.2 = true → ∃ r, ArrP P M f N u n c g e p r

theorem arrR_ok {P : Program} {M : Mem} {f : FuncId} {N : Nat} (hx : ArrX P M f N) {u : Option (Nat × Nat)} {n c : Nat} {g : Bool} {e : Nat} {p : Int × Int} (h : srcOk M (srcA u) (lenS u n) p.2 = true) :
    ArrP P M f N u n c g e p (arrR P M f N u n c g e p) := Classical.epsilon_spec (hx u n c g e p h)

theorem arrSumG_sound {P : Program} {M : Mem} {f : FuncId} {fn : Func} {N : Nat} (hf : P.funcs[f]? = some fn) (hn : (fn.name == "runtime.NumGoroutine") = false) (hb : fn.body.isSome = true) (hx : ArrX P M f N) : (arrSumG P M f N).SoundC P M := by
  refine sumC_sound hf hn hb fun args os v os' ns hs hp => ?_
  simp only [arrSumG] at hs hp ⊢
  split at hs
  · rename_i b off n c i x g e
    cases hs
    have h1 : srcOk M (some ⟨b, off, none⟩) n i = true := hp (_, true) (List.Mem.head _)
    exact ⟨(arrR_ok hx (u := some (b, off)) (c := c) (g := g) (e := e) (p := (x, i)) h1).2.2, fun h => by cases h⟩
  · rename_i i x g e
    cases hs
    have h1 : srcOk M none 0 i = true := hp (_, true) (List.Mem.head _)
    exact ⟨(arrR_ok hx (u := none) (n := 0) (c := 0) (g := g) (e := e) (p := (x, i)) h1).2.2, fun h => by cases h⟩
  · cases hs

theorem srcOk_iff {M : Mem} {u : Option Addr} {n : Nat} {i : Int} : srcOk M u n i = true ↔ nOk M u n = true ∧ n ≤ 1048576 ∧ 0 ≤ i := by simp [srcOk]

/-- The seed. -/
def seedC (n : Nat) : Int × Int := (IntKind.wrap .u64 (88172645463325252 + IntKind.wrap .u64 n), 0)

end Go.Ab

namespace Go.Ab

/-- Numbers that lie in an object, written out. -/
def arrU (cells : List Value) (off n : Nat) (k : IntKind) : List Value := (List.range n).map fun j => .int k (vint (atC cells (off + j)))
def arrB (o : AObj) (sz off n : Nat) (k : IntKind) : Bool := decide (o.cells.length = sz) && (decide (off + n ≤ sz) && (List.range n).all fun j => isI k (atC o.cells (off + j)))

theorem arrU_eq {o : AObj} {sz off n : Nat} {k : IntKind} (h : arrB o sz off n k = true) : (o.cells.drop off).take n = arrU o.cells off n k := by
  simp only [arrB, Bool.and_eq_true, decide_eq_true_eq, List.all_eq_true, List.mem_range] at h
  obtain ⟨h1, h2, h3⟩ := h
  apply List.ext_getElem (by simp [arrU]; omega)
  intro j a b
  have hj : j < n := by simp [arrU] at b; exact b
  have hlt : off + j < o.cells.length := by omega
  have e : o.cells[off + j] = atC o.cells (off + j) := by simp [atC, hlt]
  simp only [List.getElem_take, List.getElem_drop, arrU, List.getElem_map, List.getElem_range]
  rw [e]
  exact isI_eq (h3 j hj)

def ovE (P : Program) (M : Mem) : Ov := fun h ρ op => match op with
  | .load t x => match P.underlying t, ρ x with
    | some (.array n e), some (.pointer (some ⟨b, off, some sz⟩)) => match P.underlying e, szOf P t, aggT P t, hget h b with
      | some (.int k), some m, some true, some o => some (uAct [b] [] fun _ => (.agg ⟨arrU o.cells off m k⟩, [], []), [(arrB o sz off m k, true)])
      | _, _, _, _ => none
    | _, _ => ovD P M h ρ (.load t x)
  | .sliceToArrayPointer t x => match P.underlying t, ρ x with
    | some (.array n _), some (.slice (some a) len _) => some (uAct [] [] fun _ => (.pointer (some a), [], []), [(decide (0 < n) && decide (n ≤ len), true)])
    | _, _ => none
  | op => ovD P M h ρ op

theorem ovE_ok (P : Program) (M : Mem) : OvOk P M (ovE P M) := by
  intro K cl h ρ op act p hov hp
  unfold ovE at hov
  split at hov
  · rename_i t x
    split at hov
    · rename_i n e b off sz hu hx
      split at hov
      · rename_i k m o hk hm ha ho
        cases hov
        rw [held_one_iff] at hp
        have he := arrU_eq hp
        simp only [arrB, Bool.and_eq_true, decide_eq_true_eq] at hp
        refine ⟨loadAct P M t ⟨b, off, some sz⟩, by simp only [opAct, hx], uAct_same rfl rfl (gather_one' ho) (gather_nil h) fun _ => ?_⟩
        simp only [loadAct, oval, hp.1, if_true, ha, hm, hp.2.1, he]
      · cases hov
    · exact ovD_ok P M K cl h ρ _ act p hov hp
  · rename_i t x
    split at hov
    · rename_i n e a len c hu hx
      cases hov
      rw [held_one_iff] at hp
      simp only [Bool.and_eq_true, decide_eq_true_eq] at hp
      refine ⟨pureAct (.pointer (some a)), ?_, uAct_same rfl rfl (gather_nil h) (gather_nil h) fun b => rfl⟩
      simp only [opAct, pv, hu, hx, hp, and_self, if_true]
    · cases hov
  · exact ovD_ok P M K cl h ρ _ act p hov hp

/-- Two rows of numbers compared, as the model's '==' on arrays does. -/
def allEq (x y : Nat → Int) (a : Nat) : Nat → Bool
  | 0 => true
  | m + 1 => (x a == y a) && allEq x y (a + 1) m
theorem allEq_iff {x y : Nat → Int} : ∀ {m a : Nat}, allEq x y a m = true ↔ ∀ j, a ≤ j → j < a + m → x j = y j := by
  intro m
  induction m with
  | zero => intro a; exact ⟨fun _ j h1 h2 => by omega, fun _ => rfl⟩
  | succ m ih =>
    intro a
    simp only [allEq, Bool.and_eq_true, beq_iff_eq, ih]
    constructor
    · rintro ⟨h1, h2⟩ j h3 h4
      by_cases e : j = a
      · rw [e]; exact h1
      · exact h2 j (by omega) (by omega)
    · intro h
      exact ⟨h a (by omega) (by omega), fun j h1 h2 => h j (by omega) (by omega)⟩

/-- Bytes as a string. -/
def strB (us : List Value) : ByteArray := ⟨((us.map vint).map fun n => UInt8.ofNat n.toNat).toArray⟩
theorem strB_list (us : List Value) : (strB us).toList = (us.map vint).map fun n => UInt8.ofNat n.toNat := Go.ByteArray.toList_mk _

theorem u8_inj {a b : Int} (ha : IntKind.u8.has a) (hb : IntKind.u8.has b) (h : UInt8.ofNat a.toNat = UInt8.ofNat b.toNat) : a = b := by
  have ha2 : 0 ≤ a ∧ a ≤ 255 := ha
  have hb2 : 0 ≤ b ∧ b ≤ 255 := hb
  have := congrArg UInt8.toNat h
  simp only [UInt8.toNat_ofNat'] at this
  omega

theorem strB_eq {us vs : List Value} (hl : us.length = vs.length) (hu : ∀ i, i < us.length → IntKind.u8.has (vint (atC us i))) (hv : ∀ i, i < us.length → IntKind.u8.has (vint (atC vs i))) :
    ((strB us).toList == (strB vs).toList) = true ↔ ∀ i, i < us.length → vint (atC us i) = vint (atC vs i) := by
  rw [strB_list, strB_list, beq_iff_eq]
  constructor
  · intro h i hi
    refine u8_inj (hu i hi) (hv i hi) ?_
    have := congrArg (fun l : List UInt8 => l[i]?) h
    simpa [atC, hi, hl ▸ hi] using this
  · intro h
    apply List.ext_getElem (by simp [hl])
    intro i h1 h2
    simp only [List.length_map] at h1 h2
    have := h i h1
    simp only [List.getElem_map]
    have e1 : vint us[i] = vint (atC us i) := by simp [atC, h1]
    have e2 : vint vs[i] = vint (atC vs i) := by simp [atC, h2]
    rw [e1, e2, this]

end Go.Ab

namespace Go.Ab

def partV (r : Option ((Value × List AObj × List AObj) × Pins)) : Value := match r with
  | some ((v, _), _) => v
  | none => undef
def partO (r : Option ((Value × List AObj × List AObj) × Pins)) : List AObj := match r with
  | some ((_, o, _), _) => o
  | none => []
def partN (r : Option ((Value × List AObj × List AObj) × Pins)) : List AObj := match r with
  | some ((_, _, o), _) => o
  | none => []
def partP (r : Option ((Value × List AObj × List AObj) × Pins)) : Pins := match r with
  | some (_, p) => p
  | none => []

theorem parts_eq {r : Option ((Value × List AObj × List AObj) × Pins)} {v : Value} {os ns : List AObj} {p : Pins} (h : r.isSome = true) (hv : partV r = v) (ho : partO r = os) (hn : partN r = ns) (hp : partP r = p) : r = some ((v, os, ns), p) := by
  cases r with
  | none => cases h
  | some x =>
    obtain ⟨⟨a, b, c⟩, d⟩ := x
    simp only [partV, partO, partN, partP] at hv ho hn hp
    rw [hv, ho, hn, hp]

end Go.Ab

namespace Go.Ab

/-- What is known of a block that is no object's. -/
inductive GO where
  | obj (o : Obj)
  | cells (l : List Value)

def GO.ok : GO → Option Obj → Prop
  | .obj o, x => x = some o
  | .cells l, x => groundL l = true ∧ ∃ cs t fz, x = some (.cells cs t fz) ∧ l.length ≤ cs.size ∧ FzOk cs.size fz ∧
      (∀ (j : Nat) v, cs[j]? = some v → v.oneCell' = true) ∧ ∀ (j : Nat) u, l[j]? = some u → cs[j]? = some u

theorem GO.there {x : GO} {o : Option Obj} (h : x.ok o) : ∃ p, o = some p := by
  cases x with
  | obj p => exact ⟨p, h⟩
  | cells l => obtain ⟨_, cs, t, fz, h, _⟩ := h; exact ⟨_, h⟩

abbrev Gho := Nat → GO → Prop

/-- Where a run began. -/
structure Org where
  m : Pl
  h : AHeap
  w : World

structure AtM (M : Mem) (O : Org) (s : ASt) (nm : List (Nat × Nat)) (g : Gho) (a : Go.Act) (w : World) (m : Pl) : Prop where
  r0 : HRel M O.m O.h O.w
  tr : Tr M O.m O.h O.w m s.heap w
  t : TRel m s.heap s.tmps a.tmps
  d : a.defers = []
  nm : ∀ p ∈ nm, (m p.1).1 = p.2
  g : ∀ b x, g b x → x.ok (w.heap[b]?) ∧ O.w.heap.size ≤ b ∧ ∀ i o, hget s.heap i = some o → (m i).1 ≠ b

/-- The run stands at the abstract state s; the objects named lie in the blocks named; of other blocks this is known. -/
def At (M : Mem) (O : Org) (s : ASt) (nm : List (Nat × Nat)) (g : Gho) (a : Go.Act) (w : World) : Prop := ∃ m, AtM M O s nm g a w m

def nmOk (nm : List (Nat × Nat)) (H H' : AHeap) : Bool := nm.all fun p => match hget H p.1, hget H' p.1 with
  | some o, some o' => Nat.beq o'.cells.length o.cells.length
  | _, _ => false

theorem nmOk_get {nm : List (Nat × Nat)} {H H' : AHeap} (h : nmOk nm H H' = true) {p : Nat × Nat} (hp : p ∈ nm) : ∃ o o', hget H p.1 = some o ∧ hget H' p.1 = some o' ∧ o'.cells.length = o.cells.length := by
  have := List.all_eq_true.1 h p hp
  split at this
  · rename_i o o' h1 h2; exact ⟨o, o', h1, h2, Nat.eq_of_beq_eq_true this⟩
  · cases this

theorem heap_lt {w : World} {b : Nat} {o : Obj} (h : w.heap[b]? = some o) : b < w.heap.size := (Array.getElem?_eq_some_iff.1 h).1

section
variable {P : Program} {M : Mem} {O : Org}

theorem AtM.lt {s : ASt} {nm : List (Nat × Nat)} {g : Gho} {a : Go.Act} {w : World} {m : Pl} (h : AtM M O s nm g a w m) {b : Nat} {x : GO} (hb : g b x) : b < w.heap.size := by
  obtain ⟨p, hp⟩ := GO.there (h.g b x hb).1
  exact heap_lt hp

theorem AtM.step {s s' : ASt} {nm : List (Nat × Nat)} {g : Gho} {a a' : Go.Act} {w w' : World} {m m' : Pl} (h : AtM M O s nm g a w m) (tr : Tr M m s.heap w m' s'.heap w') (ht : TRel m' s'.heap s'.tmps a'.tmps) (hd : a'.defers = []) (hn : nmOk nm s.heap s'.heap = true) :
    AtM M O s' nm g a' w' m' := by
  refine ⟨h.r0, h.tr.trans tr, ht, hd, fun p hp => ?_, fun b x hb => ?_⟩
  · obtain ⟨o, o', h1, h2, h3⟩ := nmOk_get hn hp
    obtain ⟨o2, h4, _, _, _, _, h5⟩ := tr.ext p.1 o h1
    rw [h2] at h4; cases h4
    rw [h5 h3]; exact h.nm p hp
  · obtain ⟨h1, h2, h3⟩ := h.g b x hb
    have hlt := h.lt hb
    refine ⟨by rw [tr.frame b hlt h3]; exact h1, h2, fun i o hi e => ?_⟩
    rcases tr.own i o hi with h4 | ⟨j, oj, hj, h4⟩
    · omega
    · exact h3 j oj hj (by rw [← h4]; exact e)

theorem At.big {s s' : ASt} {nm : List (Nat × Nat)} {g : Gho} {a : Go.Act} {w : World} {c : Code} {e : AExit} (h : At M O s nm g a w) (hb : Big P M c s e s') (hn : nmOk nm s.heap s'.heap = true) :
    c.wp P (fun e1 a1 w1 => e1 = e.to ∧ At M O s' nm g a1 w1) a w := by
  obtain ⟨m, h⟩ := h
  refine wp_mono (hb m a w h.tr.rel h.t h.d) ?_
  rintro e1 a1 w1 ⟨rfl, m1, tr, ht, hd⟩
  exact ⟨rfl, m1, h.step tr ht hd hn⟩

theorem rruns_pre {K : Fns} {cl : List Nat → List Nat} {ops : Array Oper} (hK : K.Sound P M) {Q : Exit → Go.Act → World → Prop} {rest : List Nat} : ∀ (l : List Nat) {m : Pl} {s s' : ASt} {w : World} {a : Go.Act}, HRel M m s.heap w → TRel m s.heap s.tmps a.tmps → a.defers = [] → rruns P M K cl ops l s = some s' →
    (∀ m' a' w', Tr M m s.heap w m' s'.heap w' → TRel m' s'.heap s'.tmps a'.tmps → a'.defers = [] → wpOps P ops Q rest a' w') → wpOps P ops Q (l ++ rest) a w := by
  intro l
  induction l with
  | nil => intro m s s' w a r ht hd hs hk; cases hs; exact hk m a w (.refl r) ht hd
  | cons i l ih =>
    intro m s s' w a r ht hd hs hk
    simp only [rruns] at hs
    simp only [List.cons_append, wpOps]
    split at hs
    · rename_i ho
      simp only [ho]
      exact ih r ht hd hs hk
    · rename_i o ho
      simp only [ho]
      split at hs
      · rename_i s1 h1
        exact ostep_sound hK r ht hd h1 (Room.end_ _ _) fun m' a' w' htr ht' hd' => ih htr.rel ht' hd' hs fun m2 a2 w2 htr2 ht2 hd2 => hk m2 a2 w2 (htr.trans htr2) ht2 hd2
      · cases hs

theorem At.ops {K : Fns} {cl : List Nat → List Nat} {ops : Array Oper} (hK : K.Sound P M) {Q : Exit → Go.Act → World → Prop} {l rest : List Nat} {s s' : ASt} {nm : List (Nat × Nat)} {g : Gho} {a : Go.Act} {w : World} (h : At M O s nm g a w)
    (hs : rruns P M K cl ops l s = some s') (hn : nmOk nm s.heap s'.heap = true) (k : ∀ a1 w1, At M O s' nm g a1 w1 → wpOps P ops Q rest a1 w1) : wpOps P ops Q (l ++ rest) a w := by
  obtain ⟨m, h⟩ := h
  exact rruns_pre hK l h.tr.rel h.t h.d hs fun m' a' w' tr ht hd => k a' w' ⟨m', h.step tr ht hd hn⟩

theorem wpOps_value {ops : Array Oper} {Q : Exit → Go.Act → World → Prop} {i : Nat} {rest : List Nat} {a : Go.Act} {w w' : World} {o : Oper} {v : Value} (ho : ops[i]? = some o) (hg : o.guard = none) (hrun : (execOp a.eval o).run P w = .ok (.value v) w')
    (hk : wpOps P ops Q rest (a.put o.dst v) w') : wpOps P ops Q (i :: rest) a w := by
  have hw : Region.wanted o (yielded ops a.tmps) = true := by unfold Region.wanted; rw [hg]
  simp only [wpOps, ho, hw, if_true]
  refine .inl ?_
  simp only [Oper.wp, hrun, Oper.upon_value]
  exact hk

/-- The world turns in blocks that are no object's. -/
theorem At.world {s : ASt} {nm : List (Nat × Nat)} {g g' : Gho} {a : Go.Act} {w w' : World} (h : At M O s nm g a w) (hos : w'.os = w.os) (htape : w'.tape = w.tape) (hout : w'.output = w.output) (hsz : w.heap.size ≤ w'.heap.size)
    (hch : ∀ b, b < w.heap.size → (∀ x, ¬ g b x) → w'.heap[b]? = w.heap[b]?) (hg : ∀ b x, g' b x → x.ok (w'.heap[b]?) ∧ (w.heap.size ≤ b ∨ ∃ y, g b y)) : At M O s nm g' a w' := by
  obtain ⟨m, h⟩ := h
  have hobj : ∀ i o, hget s.heap i = some o → w'.heap[(m i).1]? = w.heap[(m i).1]? := fun i o hi => hch _ (h.tr.rel.lt hi) fun x hx => (h.g _ x hx).2.2 i o hi rfl
  have hro : ∀ b off v, M b off = some v → w'.heap[b]? = w.heap[b]? := fun b off v hv => by
    have h1 := h.r0.ro_lt hv
    exact hch b (Nat.lt_of_lt_of_le h1 h.tr.size) fun x hx => by have := (h.g b x hx).2.1; omega
  refine ⟨m, h.r0, ⟨⟨h.tr.rel.inj, fun i o hi => ?_, fun b off v hv => ?_, fun b x hx => ?_⟩, h.tr.ext, hos.trans h.tr.os, htape.trans h.tr.tape, hout.trans h.tr.output, Nat.le_trans h.tr.size hsz, fun b hb hn => ?_, h.tr.own⟩, h.t, h.d, h.nm, fun b x hb => ?_⟩
  · obtain ⟨cs, t, fz, x⟩ := h.tr.rel.obj i o hi
    exact ⟨cs, t, fz, by rw [hobj i o hi]; exact x.blk, x.size, x.len, x.free, x.one, x.flat, x.rel⟩
  · obtain ⟨h1, h2⟩ := h.tr.rel.ro b off v hv
    exact ⟨by rw [cell_of_heap (a := ⟨b, off, none⟩) (hro b off v hv)]; exact h1, h2⟩
  · obtain ⟨h1, h2⟩ := h.tr.rel.big b x hx
    have h3 := h.r0.big_lt hx
    exact ⟨(hch b (Nat.lt_of_lt_of_le h3 h.tr.size) fun y hy => by have := (h.g b y hy).2.1; omega).trans h1, h2⟩
  · rw [hch b (Nat.lt_of_lt_of_le hb h.tr.size) fun x hx => by have := (h.g b x hx).2.1; omega]
    exact h.tr.frame b hb hn
  · obtain ⟨h1, h2⟩ := hg b x hb
    refine ⟨h1, ?_, fun i o hi e => ?_⟩
    · rcases h2 with h2 | ⟨y, hy⟩
      · exact Nat.le_trans h.tr.size h2
      · exact (h.g b y hy).2.1
    · rcases h2 with h2 | ⟨y, hy⟩
      · have := h.tr.rel.lt hi; omega
      · exact (h.g b y hy).2.2 i o hi e

theorem At.weaken {s : ASt} {nm : List (Nat × Nat)} {g g' : Gho} {a : Go.Act} {w : World} (h : At M O s nm g a w) (hg : ∀ b x, g' b x → g b x) : At M O s nm g' a w := by
  obtain ⟨m, h⟩ := h
  exact ⟨m, h.r0, h.tr, h.t, h.d, h.nm, fun b x hb => h.g b x (hg b x hb)⟩

theorem At.drew {s : ASt} {nm : List (Nat × Nat)} {g : Gho} {a : Go.Act} {w : World} (h : At M O s nm g a w) (n : Nat) : At M O s nm g a { w with drawn := n } :=
  h.world rfl rfl rfl (Nat.le_refl _) (fun _ _ _ => rfl) fun b x hb => by
    obtain ⟨m, h⟩ := h
    exact ⟨(h.g b x hb).1, .inr ⟨x, hb⟩⟩

/-- A new block. -/
theorem At.alloc {s : ASt} {nm : List (Nat × Nat)} {g g' : Gho} {a : Go.Act} {w : World} (h : At M O s nm g a w) (o : Obj) (hg : ∀ b x, g' b x → (g b x ∨ (b = w.heap.size ∧ x = .obj o))) : At M O s nm g' a (w.alloc o) := by
  have e0 : (w.alloc o).heap = w.heap.push o := rfl
  refine h.world rfl rfl rfl (by rw [e0, Array.size_push]; omega) (fun b hb _ => by rw [e0, Array.getElem?_push, if_neg (by omega)]) fun b x hb => ?_
  obtain ⟨m, h⟩ := h
  rcases hg b x hb with h1 | ⟨rfl, rfl⟩
  · refine ⟨?_, .inr ⟨x, h1⟩⟩
    rw [e0, Array.getElem?_push, if_neg (by have := h.lt h1; omega)]; exact (h.g b x h1).1
  · exact ⟨by rw [e0, Array.getElem?_push, if_pos rfl]; rfl, .inl (Nat.le_refl _)⟩

/-- A known block turns. -/
theorem At.set {s : ASt} {nm : List (Nat × Nat)} {g g' : Gho} {a : Go.Act} {w : World} (h : At M O s nm g a w) {b : Nat} {y : GO} (hy : g b y) (o : Obj) (hg : ∀ b' x, g' b' x → (b' ≠ b ∧ g b' x) ∨ (b' = b ∧ x = .obj o)) : At M O s nm g' a (Go.ChangeMaps.setBlock w b o) := by
  have e1 : ∀ b', b' ≠ b → (Go.ChangeMaps.setBlock w b o).heap[b']? = w.heap[b']? := fun b' hb => by
    simp only [Go.ChangeMaps.setBlock]
    rw [Array.getElem?_setIfInBounds_ne (Ne.symm hb)]
  refine h.world rfl rfl rfl (by simp [Go.ChangeMaps.setBlock]) (fun b' _ hn => e1 b' fun e => hn y (e ▸ hy)) fun b' x hb => ?_
  obtain ⟨m, h⟩ := h
  rcases hg b' x hb with ⟨h1, h2⟩ | ⟨rfl, rfl⟩
  · exact ⟨by rw [e1 b' h1]; exact (h.g b' x h2).1, .inr ⟨x, h2⟩⟩
  · refine ⟨?_, .inr ⟨y, hy⟩⟩
    have := h.lt hy
    simp [GO.ok, Go.ChangeMaps.setBlock, this]

theorem At.put {s : ASt} {nm : List (Nat × Nat)} {g : Gho} {a : Go.Act} {w : World} (h : At M O s nm g a w) (dst : Option Tmp) {v : Value} (hv : ground v = true) : At M O ⟨aput s.tmps dst v, s.heap⟩ nm g (a.put dst v) w := by
  obtain ⟨m, h⟩ := h
  exact ⟨m, h.r0, h.tr, aput_sound h.t (.same hv), by cases dst <;> exact h.d, h.nm, h.g⟩

theorem At.eval {s : ASt} {nm : List (Nat × Nat)} {g : Gho} {a : Go.Act} {w : World} (h : At M O s nm g a w) {x : Operand} {u : Value} (hx : aev s.tmps x = some u) (hg : ground u = true) : a.eval x = u := by
  obtain ⟨m, h⟩ := h
  exact (aev_sound h.t hx).eq hg

theorem At.known {s : ASt} {nm : List (Nat × Nat)} {g : Gho} {a : Go.Act} {w : World} (h : At M O s nm g a w) {b : Nat} {x : GO} (hb : g b x) : x.ok (w.heap[b]?) ∧ O.w.heap.size ≤ b := by
  obtain ⟨m, h⟩ := h
  exact ⟨(h.g b x hb).1, (h.g b x hb).2.1⟩

/-! ### Values named, all others whatever they are -/
def AtV (M : Mem) (O : Org) (N : Nat) (live : List Nat) (V : List Value) (H : AHeap) (nm : List (Nat × Nat)) (g : Gho) (a : Go.Act) (w : World) : Prop := ∃ z, At M O ⟨mkT N live V z, H⟩ nm g a w

theorem AtV.of {s : ASt} {nm : List (Nat × Nat)} {g : Gho} {a : Go.Act} {w : World} (h : At M O s nm g a w) (live : List Nat) : AtV M O s.tmps.length live (lookT s.tmps live) s.heap nm g a w :=
  ⟨fun t => s.tmps.getD t undef, by rw [← mkT_look rfl live]; exact h⟩

theorem AtV.code {ov : Ov} {uns : List Nat} {lp : Hooks} {l : List Sum} {sym : List Nat} (hov : OvOk P M ov) (hl : ∀ s ∈ l, s.SoundC P M) (hmix : P.follows .mixedOrders = true) {fuel : Nat} {c : Code} {orc : List Bool} (hlp : HooksOk P M lp c) {N : Nat} {live live' : List Nat} {V V' : List Value} {H H' : AHeap}
    {nm : List (Nat × Nat)} {g : Gho} {a : Go.Act} {w : World} {e : AExit} {N' : Nat} {p : Pins} (h : AtV M O N live V H nm g a w) (hev : ∀ z, viewU live' (evU P M ov uns lp l sym fuel c ⟨mkT N live V z, H⟩ orc) = some (e, V', H', N', p)) (hp : Held p) (hn : nmOk nm H H' = true) :
    c.wp P (fun e1 a1 w1 => e1 = e.to ∧ AtV M O N' live' V' H' nm g a1 w1) a w := by
  obtain ⟨z, h⟩ := h
  obtain ⟨z', hb⟩ := big_view hov hl hmix hlp (hev z) hp
  refine wp_mono (h.big hb hn) ?_
  rintro e1 a1 w1 ⟨rfl, h1⟩
  exact ⟨rfl, z', h1⟩

/-- What is left behind some operations in the values named. -/
def viewR (live : List Nat) (r : Option ASt) : Option (List Value × AHeap × Nat) :=
  match r with
  | some s => some (lookT s.tmps live, s.heap, s.tmps.length)
  | none => none

theorem AtV.ops {K : Fns} {cl : List Nat → List Nat} {ops : Array Oper} (hK : K.Sound P M) {Q : Exit → Go.Act → World → Prop} {l rest : List Nat} {N N' : Nat} {live live' : List Nat} {V V' : List Value} {H H' : AHeap} {nm : List (Nat × Nat)} {g : Gho} {a : Go.Act} {w : World} (h : AtV M O N live V H nm g a w)
    (hs : ∀ z, viewR live' (rruns P M K cl ops l ⟨mkT N live V z, H⟩) = some (V', H', N')) (hn : nmOk nm H H' = true) (k : ∀ a1 w1, AtV M O N' live' V' H' nm g a1 w1 → wpOps P ops Q rest a1 w1) : wpOps P ops Q (l ++ rest) a w := by
  obtain ⟨z, h⟩ := h
  have hz := hs z
  cases hr : rruns P M K cl ops l ⟨mkT N live V z, H⟩ with
  | none => rw [hr] at hz; cases hz
  | some s' =>
    rw [hr] at hz
    simp only [viewR, Option.some.injEq, Prod.mk.injEq] at hz
    obtain ⟨rfl, rfl, rfl⟩ := hz
    exact h.ops hK hr hn fun a1 w1 h1 => k a1 w1 (.of h1 live')

theorem AtV.put {N : Nat} {live live' : List Nat} {V V' : List Value} {H : AHeap} {nm : List (Nat × Nat)} {g : Gho} {a : Go.Act} {w : World} (h : AtV M O N live V H nm g a w) (dst : Option Tmp) {v : Value} (hv : ground v = true)
    (hl : ∀ z, lookT (aput (mkT N live V z) dst v) live' = V') : AtV M O N live' V' H nm g (a.put dst v) w := by
  obtain ⟨z, h⟩ := h
  have h1 := AtV.of (h.put dst hv) live'
  have hN : (aput (mkT N live V z) dst v).length = N := by cases dst <;> simp [aput, mkT]
  simp only [hl z, hN] at h1
  exact h1

theorem AtV.eval {N : Nat} {live : List Nat} {V : List Value} {H : AHeap} {nm : List (Nat × Nat)} {g : Gho} {a : Go.Act} {w : World} (h : AtV M O N live V H nm g a w) {x : Operand} {u : Value} (hx : ∀ z, aev (mkT N live V z) x = some u) (hg : ground u = true) : a.eval x = u := by
  obtain ⟨z, h⟩ := h
  exact h.eval (hx z) hg

theorem AtV.known {N : Nat} {live : List Nat} {V : List Value} {H : AHeap} {nm : List (Nat × Nat)} {g : Gho} {a : Go.Act} {w : World} (h : AtV M O N live V H nm g a w) {b : Nat} {x : GO} (hb : g b x) : x.ok (w.heap[b]?) ∧ O.w.heap.size ≤ b := by
  obtain ⟨z, h⟩ := h
  exact h.known hb

theorem AtV.weaken {N : Nat} {live : List Nat} {V : List Value} {H : AHeap} {nm : List (Nat × Nat)} {g g' : Gho} {a : Go.Act} {w : World} (h : AtV M O N live V H nm g a w) (hg : ∀ b x, g' b x → g b x) : AtV M O N live V H nm g' a w := h.imp fun _ h => h.weaken hg
theorem AtV.drew {N : Nat} {live : List Nat} {V : List Value} {H : AHeap} {nm : List (Nat × Nat)} {g : Gho} {a : Go.Act} {w : World} (h : AtV M O N live V H nm g a w) (n : Nat) : AtV M O N live V H nm g a { w with drawn := n } := h.imp fun _ h => h.drew n
theorem AtV.alloc {N : Nat} {live : List Nat} {V : List Value} {H : AHeap} {nm : List (Nat × Nat)} {g g' : Gho} {a : Go.Act} {w : World} (h : AtV M O N live V H nm g a w) (o : Obj) (hg : ∀ b x, g' b x → (g b x ∨ (b = w.heap.size ∧ x = .obj o))) : AtV M O N live V H nm g' a (w.alloc o) := h.imp fun _ h => h.alloc o hg
theorem AtV.set {N : Nat} {live : List Nat} {V : List Value} {H : AHeap} {nm : List (Nat × Nat)} {g g' : Gho} {a : Go.Act} {w : World} (h : AtV M O N live V H nm g a w) {b : Nat} {y : GO} (hy : g b y) (o : Obj) (hg : ∀ b' x, g' b' x → (b' ≠ b ∧ g b' x) ∨ (b' = b ∧ x = .obj o)) : AtV M O N live V H nm g' a (Go.ChangeMaps.setBlock w b o) := h.imp fun _ h => h.set hy o hg

/-- What was named is forgotten, in part. -/
theorem AtV.live {N : Nat} {live live' : List Nat} {V V' : List Value} {H : AHeap} {nm : List (Nat × Nat)} {g : Gho} {a : Go.Act} {w : World} (h : AtV M O N live V H nm g a w) (hl : ∀ z, lookT (mkT N live V z) live' = V') : AtV M O N live' V' H nm g a w := by
  obtain ⟨z, h⟩ := h
  have h1 := AtV.of h live'
  have hN : (mkT N live V z).length = N := by simp [mkT]
  simp only [hl z, hN] at h1
  exact h1
end
end Go.Ab

namespace Go.Ab

def OpenL (p r : Value) : List Value → List Value → Prop
  | [], [] => True
  | u :: us, v :: vs => (v = u ∨ (u = p ∧ v = r)) ∧ OpenL p r us vs
  | _, _ => False

theorem OpenL.get {p r : Value} : ∀ {V V' : List Value}, OpenL p r V V' → ∀ k, V'.getD k undef = V.getD k undef ∨ (V.getD k undef = p ∧ V'.getD k undef = r) := by
  intro V
  induction V with
  | nil => intro V' h k; cases V' with
    | nil => exact .inl rfl
    | cons v vs => exact False.elim h
  | cons u us ih => intro V' h k; cases V' with
    | nil => exact False.elim h
    | cons v vs => cases k with
      | zero => rcases h.1 with h1 | h1
                · exact .inl (by simpa using h1)
                · exact .inr (by simpa using h1)
      | succ k => simpa using ih h.2 k

theorem mkT_get {N : Nat} {live : List Nat} {V : List Value} {z : Nat → Value} {t : Nat} {u : Value} (h : (mkT N live V z)[t]? = some u) : t < N ∧ ((∃ k, posN t live 0 = some k ∧ u = V.getD k undef) ∨ (posN t live 0 = none ∧ u = z t)) := by
  have ht : t < N := by have := (List.getElem?_eq_some_iff.1 h).1; simpa [mkT] using this
  refine ⟨ht, ?_⟩
  simp only [mkT, List.getElem?_map, List.getElem?_range ht, Option.map_some, Option.some.injEq] at h
  split at h
  · rename_i k hk; exact .inl ⟨k, hk, h.symm⟩
  · rename_i hk; exact .inr ⟨hk, h.symm⟩

theorem mkT_at {N : Nat} {live : List Nat} {V : List Value} {z : Nat → Value} {t : Nat} (ht : t < N) : (mkT N live V z)[t]? = some (match posN t live 0 with | some k => V.getD k undef | none => z t) := by
  simp only [mkT, List.getElem?_map, List.getElem?_range ht, Option.map_some]
  cases posN t live 0 <;> rfl

theorem hget_snoc {h : AHeap} {x : Option AObj} {i : Nat} {o : AObj} (hi : hget h i = some o) : hget (h ++ [x]) i = some o := by
  have := hget_lt hi
  unfold hget at hi ⊢
  rw [List.getElem?_append_left this]; exact hi
theorem hget_snoc_inv {h : AHeap} {p : AObj} {i : Nat} {o : AObj} (hi : hget (h ++ [some p]) i = some o) : hget h i = some o ∨ (i = h.length ∧ o = p) := by
  unfold hget at hi ⊢
  rcases Nat.lt_trichotomy i h.length with hlt | rfl | hlt
  · left; rw [List.getElem?_append_left hlt] at hi; exact hi
  · right; rw [List.getElem?_append_right (Nat.le_refl _)] at hi; simp at hi; exact ⟨rfl, hi.symm⟩
  · rw [List.getElem?_append_right (by omega), List.getElem?_eq_none (by simp; omega)] at hi; simp at hi

section
variable {P : Program} {M : Mem} {O : Org}

/-- Known cells become an object. -/
theorem AtV.open {N : Nat} {live : List Nat} {V V' : List Value} {H : AHeap} {nm : List (Nat × Nat)} {g : Gho} {a : Go.Act} {w : World} (h : AtV M O N live V H nm g a w) {b : Nat} {l : List Value} (hb : g b (.cells l)) (e : Nat) (hnm : nm.all (fun p => Nat.blt p.1 H.length) = true)
    (ho : OpenL (.pointer (some ⟨b, 0, none⟩)) (.pointer (some ⟨H.length, 0, some l.length⟩)) V V') : AtV M O N live V' (H ++ [some ⟨l, false, e, true⟩]) ((H.length, b) :: nm) (fun b' x => g b' x ∧ b' ≠ b) a w := by
  obtain ⟨z, m, h⟩ := h
  obtain ⟨⟨hgr, cs, t, fz, hblk, hlen, hfree, hone, hcells⟩, hbase, hdis⟩ := h.g b _ hb
  have hnone : ∀ i o, hget H i = some o → i ≠ H.length := fun i o hi => by have := hget_lt hi; omega
  let m' : Pl := fun k => if k = H.length then (b, cs.size) else m k
  have mold : ∀ i o, hget H i = some o → m' i = m i := fun i o hi => if_neg (hnone i o hi)
  have mnew : m' H.length = (b, cs.size) := if_pos rfl
  have ext : Ext m H m' (H ++ [some ⟨l, false, e, true⟩]) := fun i o hi => ⟨o, hget_snoc hi, rfl, rfl, rfl, Nat.le_refl _, fun _ => mold i o hi⟩
  have hnew : hget (H ++ [some ⟨l, false, e, true⟩]) H.length = some ⟨l, false, e, true⟩ := by simp [hget]
  have rel : HRel M m' (H ++ [some ⟨l, false, e, true⟩]) w := by
    refine ⟨fun i j oi oj hi hj he => ?_, fun i o hi => ?_, fun b' off v hv => ?_, fun b' x hx => ?_⟩
    · rcases hget_snoc_inv hi with h1 | ⟨rfl, _⟩ <;> rcases hget_snoc_inv hj with h2 | ⟨rfl, _⟩
      · rw [mold i _ h1, mold j _ h2] at he; exact h.tr.rel.inj i j _ _ h1 h2 he
      · rw [mold i _ h1, mnew] at he; exact absurd he (hdis i _ h1)
      · rw [mold j _ h2, mnew] at he; exact absurd he.symm (hdis j _ h2)
      · rfl
    · rcases hget_snoc_inv hi with h1 | ⟨rfl, rfl⟩
      · obtain ⟨cs', t', fz', x⟩ := h.tr.rel.obj i o h1
        have e1 := mold i _ h1
        exact ⟨cs', t', fz', by rw [e1]; exact x.blk, by rw [e1]; exact x.size, x.len, x.free, x.one, x.flat, fun j u v hu hv => (x.rel j u v hu hv).mono ext⟩
      · refine ⟨cs, t, fz, by rw [mnew]; exact hblk, by rw [mnew], hlen, hfree, hone, fun _ => hgr, fun j u v hu hv => ?_⟩
        have := hcells j u hu
        rw [hv] at this; cases this
        exact .same (groundL_get hgr hu)
    · obtain ⟨h1, h2, h3, h4⟩ := h.tr.rel.ro b' off v hv
      refine ⟨h1, h2, h3, fun i o hi he => ?_⟩
      rcases hget_snoc_inv hi with h5 | ⟨rfl, _⟩
      · rw [mold i _ h5] at he; exact h4 i o h5 he
      · rw [mnew] at he
        have := h.r0.ro_lt hv
        simp only at he; omega
    · obtain ⟨h1, h4⟩ := h.tr.rel.big b' x hx
      refine ⟨h1, fun i o hi he => ?_⟩
      rcases hget_snoc_inv hi with h5 | ⟨rfl, _⟩
      · rw [mold i _ h5] at he; exact h4 i o h5 he
      · rw [mnew] at he
        have := h.r0.big_lt hx
        simp only at he; omega
  have tr : Tr M O.m O.h O.w m' (H ++ [some ⟨l, false, e, true⟩]) w := ⟨rel, h.tr.ext.trans ext, h.tr.os, h.tr.tape, h.tr.output, h.tr.size, h.tr.frame, fun i o hi => by
    rcases hget_snoc_inv hi with h1 | ⟨rfl, _⟩
    · rw [mold i _ h1]; exact h.tr.own i o h1
    · rw [mnew]; exact .inl hbase⟩
  refine ⟨z, m', h.r0, tr, ⟨by have := h.t.1; simp [mkT] at this ⊢; exact this, fun t u v hu hv => ?_⟩, h.d, fun p hp => ?_, fun b' x hx => ?_⟩
  · obtain ⟨ht, hu⟩ := mkT_get hu
    have hold := h.t.2 t _ v (mkT_at ht) hv
    rcases hu with ⟨k, hk, rfl⟩ | ⟨hk, rfl⟩
    · rw [hk] at hold
      simp only at hold
      rcases ho.get k with h1 | ⟨h1, h2⟩
      · rw [h1]; exact hold.mono ext
      · rw [h1] at hold
        have := hold.eq rfl
        subst this
        rw [h2]
        exact .ptr hnew (Nat.le_refl _) fun _ => by rw [mnew]
    · rw [hk] at hold; exact hold.mono ext
  · rcases List.mem_cons.1 hp with rfl | hp
    · rw [mnew]
    · have := Nat.blt_eq.mp (List.all_eq_true.1 hnm p hp)
      rw [show m' p.1 = m p.1 from if_neg (by omega)]; exact h.nm p hp
  · obtain ⟨h1, h2⟩ := hx
    obtain ⟨h3, h4, h5⟩ := h.g b' x h1
    refine ⟨h3, h4, fun i o hi he => ?_⟩
    rcases hget_snoc_inv hi with h6 | ⟨rfl, _⟩
    · rw [mold i _ h6] at he; exact h5 i o h6 he
    · rw [mnew] at he; exact h2 he.symm

/-- Numbers below n stay. -/
def lowN (n : Nat) (k : Nat) : Option Nat := if Nat.blt k n then some k else none

mutual
theorem renV_low {n : Nat} : ∀ (u u' : Value), renV (lowN n) u = some u' → u' = u
  | .pointer (some a), u', h => by
    simp only [renV] at h
    split at h
    · cases h; rfl
    · rename_i sz hs
      unfold lowN at h
      split at h
      · rename_i j hj; split at hj <;> cases hj; cases h; obtain ⟨b, o, s⟩ := a; simp only at hs; subst hs; rfl
      · cases h
  | .pointer none, u', h => by cases h; rfl
  | .slice (some a) k c, u', h => by
    simp only [renV] at h
    split at h
    · cases h; rfl
    · rename_i sz hs
      unfold lowN at h
      split at h
      · rename_i j hj; split at hj <;> cases hj; cases h; obtain ⟨b, o, s⟩ := a; simp only at hs; subst hs; rfl
      · cases h
  | .slice none _ _, u', h => by cases h; rfl
  | .func fn x y, u', h => by
    simp only [renV] at h
    split at h
    · rename_i x' y' hx hy; cases h; rw [renA_low x x' hx, renA_low y y' hy]
    · cases h
  | .iface t v, u', h => by
    simp only [renV] at h
    split at h
    · rename_i v' hv; cases h; rw [renV_low v v' hv]
    · cases h
  | .agg cs, u', h => by
    simp only [renV] at h
    split at h
    · rename_i v' hv; cases h; rw [renA_low cs v' hv]
    · cases h
  | .tuple cs, u', h => by
    simp only [renV] at h
    split at h
    · rename_i v' hv; cases h; rw [renA_low cs v' hv]
    · cases h
  | .bool _, u', h => by cases h; rfl
  | .int _ _, u', h => by cases h; rfl
  | .float _ _, u', h => by cases h; rfl
  | .complex _ _ _, u', h => by cases h; rfl
  | .string _, u', h => by cases h; rfl
  | .map _, u', h => by cases h; rfl
  | .chan _, u', h => by cases h; rfl
  | .nilFunc, u', h => by cases h; rfl
  | .nilIface, u', h => by cases h; rfl
theorem renA_low {n : Nat} : ∀ (x x' : Array Value), renA (lowN n) x = some x' → x' = x
  | ⟨l⟩, x', h => by
    simp only [renA] at h
    split at h
    · rename_i l' hl; cases h; rw [renL_low l l' hl]
    · cases h
theorem renL_low {n : Nat} : ∀ (l l' : List Value), renL (lowN n) l = some l' → l' = l
  | [], l', h => by cases h; rfl
  | v :: r, l', h => by
    simp only [renL] at h
    split at h
    · rename_i v' r' hv hr; cases h; rw [renV_low v v' hv, renL_low r r' hr]
    · cases h
end

/-- Values that name no object from number n on, but for the one that is closed. -/
def CloseL (n : Nat) (r p : Value) : List Value → List Value → Prop
  | [], [] => True
  | u :: us, v :: vs => ((v = u ∧ ((renV (lowN n) u).isSome = true ∨ ground u = true)) ∨ (u = r ∧ v = p)) ∧ CloseL n r p us vs
  | _, _ => False

theorem CloseL.get {n : Nat} {r p : Value} : ∀ {V V' : List Value}, CloseL n r p V V' → ∀ k, (V'.getD k undef = V.getD k undef ∧ ((renV (lowN n) (V.getD k undef)).isSome = true ∨ ground (V.getD k undef) = true)) ∨ (V.getD k undef = r ∧ V'.getD k undef = p) := by
  intro V
  induction V with
  | nil => intro V' h k; cases V' with
    | nil => exact .inl ⟨rfl, .inr rfl⟩
    | cons v vs => exact False.elim h
  | cons u us ih => intro V' h k; cases V' with
    | nil => exact False.elim h
    | cons v vs => cases k with
      | zero => rcases h.1 with h1 | h1
                · exact .inl (by simpa using h1)
                · exact .inr (by simpa using h1)
      | succ k => simpa using ih h.2 k

def closOk (H : AHeap) : Bool := H.all fun x => match x with
  | some o => o.flat || (renL (lowN H.length) o.cells).isSome
  | none => true

/-- The last object becomes known cells. -/
theorem AtV.close {N : Nat} {live : List Nat} {V V' : List Value} {H : AHeap} {nm : List (Nat × Nat)} {g : Gho} {a : Go.Act} {w : World} {l : List Value} {e b : Nat} (h : AtV M O N live V (H ++ [some ⟨l, false, e, true⟩]) nm g a w) (hb : (H.length, b) ∈ nm) (hbase : O.w.heap.size ≤ b)
    {nm' : List (Nat × Nat)} (hnm : ∀ p ∈ nm', p ∈ nm) (hO : ∀ i o, hget O.h i = some o → i < H.length) {i0 : Nat} {o0 : AObj} (h0 : hget H i0 = some o0) (hne : 0 < o0.cells.length) (hcl : closOk H = true)
    (hc : CloseL H.length (.pointer (some ⟨H.length, 0, some l.length⟩)) (.pointer (some ⟨b, 0, none⟩)) V V') : AtV M O N live V' H nm' (fun b' x => g b' x ∨ (b' = b ∧ x = .cells l)) a w := by
  obtain ⟨z, m, h⟩ := h
  have hmb : (m H.length).1 = b := h.nm _ hb
  have hlast : hget (H ++ [some ⟨l, false, e, true⟩]) H.length = some ⟨l, false, e, true⟩ := by simp [hget]
  have emb : Emb (lowN H.length) m (H ++ [some ⟨l, false, e, true⟩]) m H := fun i j o hj hi => by
    unfold lowN at hj
    split at hj
    · rename_i hlt
      cases hj
      have := Nat.blt_eq.mp hlt
      rcases hget_snoc_inv hi with h1 | ⟨rfl, _⟩
      · exact ⟨o, h1, rfl, rfl, rfl, rfl⟩
      · omega
    · cases hj
  have low : ∀ {u v : Value}, VRel m (H ++ [some ⟨l, false, e, true⟩]) u v → ((renV (lowN H.length) u).isSome = true ∨ ground u = true) → VRel m H u v := fun {u v} hr hk => by
    rcases hk with hk | hk
    · obtain ⟨u', hu⟩ := Option.isSome_iff_exists.1 hk
      have := hr.ren emb hu
      rwa [renV_low u u' hu] at this
    · have := hr.eq hk
      subst this
      exact .same hk
  have hne' : ∀ i o, hget H i = some o → (m i).1 ≠ b := fun i o hi he => by
    have := h.tr.rel.inj i H.length _ _ (hget_snoc hi) hlast (by rw [he, hmb])
    have := hget_lt hi
    omega
  have rel : HRel M m H w := by
    refine ⟨fun i j oi oj hi hj he => h.tr.rel.inj i j _ _ (hget_snoc hi) (hget_snoc hj) he, fun i o hi => ?_, fun b' off v hv => ?_, fun b' x hx => ?_⟩
    · obtain ⟨cs, t, fz, x⟩ := h.tr.rel.obj i o (hget_snoc hi)
      refine ⟨cs, t, fz, x.blk, x.size, x.len, x.free, x.one, x.flat, fun j u v hu hv => ?_⟩
      have hr := x.rel j u v hu hv
      refine low hr ?_
      have hmem : some o ∈ H := by
        have hlt := hget_lt hi
        unfold hget at hi
        rw [List.getElem?_eq_getElem hlt] at hi
        simp only at hi
        rw [← hi]; exact List.getElem_mem hlt
      have := List.all_eq_true.1 hcl _ hmem
      simp only [Bool.or_eq_true] at this
      rcases this with hf | hf
      · exact .inr (groundL_get (x.flat hf) hu)
      · obtain ⟨l', hl'⟩ := Option.isSome_iff_exists.1 hf
        obtain ⟨k1, k2⟩ := renL_get hl'
        have e1 := renL_low _ _ hl'
        subst e1
        obtain ⟨v', hv', hren⟩ := k2 j u hu
        rw [hu] at hv'; cases hv'
        exact .inl (by rw [hren]; rfl)
    · obtain ⟨h1, h2, h3, h4⟩ := h.tr.rel.ro b' off v hv
      exact ⟨h1, h2, h3, fun i o hi => h4 i o (hget_snoc hi)⟩
    · obtain ⟨h1, h4⟩ := h.tr.rel.big b' x hx
      exact ⟨h1, fun i o hi => h4 i o (hget_snoc hi)⟩
  have tr : Tr M O.m O.h O.w m H w := ⟨rel, fun i o hi => by
    obtain ⟨o', h1, h2, h3, h4, h5, h6⟩ := h.tr.ext i o hi
    rcases hget_snoc_inv h1 with h7 | ⟨h7, _⟩
    · exact ⟨o', h7, h2, h3, h4, h5, h6⟩
    · have := hO i o hi; omega, h.tr.os, h.tr.tape, h.tr.output, h.tr.size, h.tr.frame, fun i o hi => h.tr.own i o (hget_snoc hi)⟩
  refine ⟨fun t => staleV i0 (z t), m, h.r0, tr, ⟨by have := h.t.1; simp [mkT] at this ⊢; exact this, fun t u v hu hv => ?_⟩, h.d, fun p hp => h.nm p (hnm p hp), fun b' x hx => ?_⟩
  · obtain ⟨ht, hu⟩ := mkT_get hu
    have hold := h.t.2 t _ v (mkT_at ht) hv
    rcases hu with ⟨k, hk, rfl⟩ | ⟨hk, rfl⟩
    · rw [hk] at hold
      simp only at hold
      rcases hc.get k with ⟨h1, h2⟩ | ⟨h1, h2⟩
      · rw [h1]; exact low hold h2
      · rw [h1] at hold
        rw [h2]
        have e1 : v = .pointer (some ⟨b, 0, none⟩) := by
          cases hold with
          | same hg => simp [ground] at hg
          | ptr ho hle hv =>
            rw [hlast] at ho; cases ho
            rw [hv rfl, hmb]
        rw [e1]
        exact .same rfl
    · rw [hk] at hold; exact hold.stale h0 hne
  · rcases hx with hx | ⟨rfl, rfl⟩
    · obtain ⟨h3, h4, h5⟩ := h.g b' x hx
      exact ⟨h3, h4, fun i o hi => h5 i o (hget_snoc hi)⟩
    · obtain ⟨cs, t, fz, x⟩ := h.tr.rel.obj _ _ hlast
      have hg := x.flat rfl
      refine ⟨⟨hg, cs, t, fz, by rw [← hmb]; exact x.blk, x.len, x.free, x.one, fun j u hu => ?_⟩, hbase, hne'⟩
      have hj : j < cs.size := Nat.lt_of_lt_of_le (List.getElem?_eq_some_iff.1 hu).1 x.len
      have := (x.rel j u cs[j] hu (Array.getElem?_eq_getElem hj)).eq (groundL_get hg hu)
      rw [Array.getElem?_eq_getElem hj, this]

/-- An object's block gets a name. -/
theorem AtV.name {N : Nat} {live : List Nat} {V : List Value} {H : AHeap} {nm : List (Nat × Nat)} {g : Gho} {a : Go.Act} {w : World} (h : AtV M O N live V H nm g a w) {i : Nat} {o : AObj} (hi : hget H i = some o) (hO : hget O.h i = none)
    (hs : ∀ j oj, hget O.h j = some oj → ∃ o', hget H j = some o' ∧ o'.cells.length = oj.cells.length) : ∃ b, AtV M O N live V H ((i, b) :: nm) g a w ∧ O.w.heap.size ≤ b ∧ b < w.heap.size ∧ ∀ x, ¬ g b x := by
  obtain ⟨z, m, h⟩ := h
  refine ⟨(m i).1, ⟨z, m, h.r0, h.tr, h.t, h.d, fun p hp => ?_, h.g⟩, ?_, h.tr.rel.lt hi, fun x hx => (h.g _ x hx).2.2 i o hi rfl⟩
  · rcases List.mem_cons.1 hp with rfl | hp
    · rfl
    · exact h.nm p hp
  · rcases h.tr.own i o hi with h1 | ⟨j, oj, hj, h1⟩
    · exact h1
    · obtain ⟨o', h2, h3⟩ := hs j oj hj
      obtain ⟨o2, h4, _, _, _, _, h5⟩ := h.tr.ext j oj hj
      simp only at h2 h4
      rw [h2] at h4; cases h4
      have e1 := h5 h3
      have := h.tr.rel.inj i j _ _ hi h2 (by rw [h1, e1])
      subst this
      rw [hO] at hj; cases hj

/-- The address of an object that has a name. -/
theorem AtV.addr {N : Nat} {live : List Nat} {V : List Value} {H : AHeap} {nm : List (Nat × Nat)} {g : Gho} {a : Go.Act} {w : World} (h : AtV M O N live V H nm g a w) {i b : Nat} {o : AObj} (hb : (i, b) ∈ nm) (hi : hget H i = some o) {x : Operand} {n : Nat} (hn : n = o.cells.length) (hx : ∀ z, aev (mkT N live V z) x = some (.pointer (some ⟨i, 0, some n⟩))) :
    a.eval x = .pointer (some ⟨b, 0, none⟩) := by
  obtain ⟨z, m, h⟩ := h
  have hr := aev_sound h.t (hx z)
  have hmb := h.nm _ hb
  generalize a.eval x = v at hr
  cases hr with
  | same hg => simp [ground] at hg
  | ptr ho hle hv =>
    simp only at ho
    rw [hi] at ho; cases ho
    rw [hv hn, hmb]
end
end Go.Ab

namespace Go.Ab

section
variable {P : Program} {M : Mem}

theorem At.start {m : Pl} {w : World} {os : List AObj} {args : List Value} {args' : Array Value} (r : HRel M m (os.map some) w) (hargs : LRel m (os.map some) args args'.toList) (n : Nat) :
    At M ⟨m, os.map some, w⟩ ⟨args ++ List.replicate (n - args.length) undef, os.map some⟩ [] (fun _ _ => False) { tmps := args' ++ Array.replicate (n - args'.size) undef, defers := [] } w := by
  refine ⟨m, r, .refl r, ?_, rfl, fun p hp => absurd hp (by simp), fun b x hx => False.elim hx⟩
  have hal := hargs.1
  simp only [TRel, Array.toList_append, Array.toList_replicate]
  have hsz : n - args'.size = n - args.length := by simp at hal; omega
  rw [hsz]
  refine LRel.append hargs (LRel.same ((groundL_iff _).2 fun z hz => ?_))
  rw [List.mem_replicate] at hz
  rw [hz.2]; rfl

/-- As fin says, of a run. -/
theorem fin_at {m : Pl} {w w1 : World} {os : List AObj} {s' : ASt} {m1 : Pl} {a1 : Go.Act} (htr : Tr M m (os.map some) w m1 s'.heap w1) (ht1 : TRel m1 s'.heap s'.tmps a1.tmps) {fn : Func} {keep : List Nat} {v : Value} {os' ns : List AObj}
    (hfin : fin P M fn.results.toList os.length keep s' = some (v, os', ns)) : os'.length = os.length ∧ ∃ v' m', (results fn a1.tmps).run P w1 = .ok v' w1 ∧ Tr M m (os.map some) w m' ((os' ++ ns).map some) w1 ∧ VRel m' ((os' ++ ns).map some) v v' ∧
      ∀ b, (∀ i o, hget s'.heap i = some o → (m1 i).1 ≠ b) → ∀ i o, hget ((os' ++ ns).map some) i = some o → (m' i).1 ≠ b := by
  unfold fin at hfin
  split at hfin
  · rename_i us hus
    split at hfin
    · rename_i hnd
      have hd := nodupB_sound hnd
      split at hfin
      · rename_i objs hg
        split at hfin
        · rename_i lo v1 hlo hv
          cases hfin
          obtain ⟨g1, g2⟩ := gather_get hg
          obtain ⟨l1, l2⟩ := renOs_get hlo
          have hLl : (List.range os.length ++ keep).length = os.length + keep.length := by simp
          have hlen : os.length ≤ lo.length := by omega
          refine ⟨by simp; omega, ?_⟩
          obtain ⟨v', hrun, hvr⟩ := results_sound htr.rel ht1 hus
          obtain ⟨hr1, hemb⟩ := restrict htr.rel hd hg hlo
          refine ⟨v', fun j => m1 ((List.range os.length ++ keep).getD j 0), hrun, ?_⟩
          rw [List.take_append_drop]
          refine ⟨⟨hr1, fun i o ho => ?_, htr.os, htr.tape, htr.output, htr.size, htr.frame, fun i p hp => ?_⟩, hvr.ren hemb hv, fun b hb i p hp => ?_⟩
          · obtain ⟨o', ho', e1, e2, e3, e4, e5⟩ := htr.ext i o ho
            rw [hget_map] at ho
            have hi : i < os.length := (List.getElem?_eq_some_iff.1 ho).1
            have hLi : (List.range os.length ++ keep)[i]? = some i := by
              rw [List.getElem?_append_left (by simpa using hi), List.getElem?_range hi]
            have hil : i < lo.length := by omega
            obtain ⟨q, hq1, hq2⟩ := l2 i lo[i] (List.getElem?_eq_getElem hil)
            obtain ⟨q', hq3, hq4⟩ := g2 i i hLi
            rw [hq1] at hq3; cases hq3
            rw [ho'] at hq4; cases hq4
            have hp := renO_props hq2
            refine ⟨lo[i], by rw [hget_map]; exact List.getElem?_eq_getElem hil, by rw [hp.1, e1], by rw [hp.2.1, e2], by rw [hp.2.2.1, e3], by rw [hp.2.2.2]; exact e4, fun hl => ?_⟩
            have := e5 (by rw [← hp.2.2.2]; exact hl)
            rw [List.getD_eq_getElem?_getD, hLi]
            exact this
          · rw [hget_map] at hp
            obtain ⟨q, hq1, hq2⟩ := l2 i p hp
            have hil : i < (List.range os.length ++ keep).length := by have := (List.getElem?_eq_some_iff.1 hq1).1; omega
            obtain ⟨q', hq3, hq4⟩ := g2 i _ (List.getElem?_eq_getElem hil)
            rw [List.getD_eq_getElem?_getD, List.getElem?_eq_getElem hil]
            exact htr.own _ q' hq4
          · rw [hget_map] at hp
            obtain ⟨q, hq1, hq2⟩ := l2 i p hp
            have hil : i < (List.range os.length ++ keep).length := by have := (List.getElem?_eq_some_iff.1 hq1).1; omega
            obtain ⟨q', hq3, hq4⟩ := g2 i _ (List.getElem?_eq_getElem hil)
            show (m1 ((List.range os.length ++ keep).getD i 0)).1 ≠ b
            rw [List.getD_eq_getElem?_getD, List.getElem?_eq_getElem hil]
            exact hb _ q' hq4
        · cases hfin
      · cases hfin
    · cases hfin
  · cases hfin

/-- The end that a function's code comes to. -/
def Done (P : Program) (M : Mem) (O : Org) (fn : Func) (k : Nat) (R : Value → List AObj → List AObj → Gho → Prop) (e : Exit) (a : Go.Act) (w : World) : Prop :=
  (e = .normal ∨ e = .ret) ∧ ∃ s nm g v os' ns, At M O s nm g a w ∧ finA P M fn.results.toList k s = some (v, os', ns) ∧ R v os' ns g

/-- A function that hands back known blocks. -/
def ACallsG (P : Program) (M : Mem) (f : FuncId) (args : List Value) (os : List AObj) (R : Value → List AObj → List AObj → Gho → Prop) : Prop :=
  ∀ (m : Pl) (w : World) (args' : Array Value), HRel M m (os.map some) w → LRel m (os.map some) args args'.toList →
    Calls P f args' w fun e w' => ∃ v os' ns g v' m', R v os' ns g ∧ os'.length = os.length ∧ e = .returned v' ∧ Tr M m (os.map some) w m' ((os' ++ ns).map some) w' ∧ VRel m' ((os' ++ ns).map some) v v' ∧
      ∀ b x, g b x → x.ok (w'.heap[b]?) ∧ w.heap.size ≤ b ∧ ∀ i o, hget ((os' ++ ns).map some) i = some o → (m' i).1 ≠ b

theorem acallsG_of_at {f : FuncId} {fn : Func} {c : Code} (hf : P.funcs[f]? = some fn) (hb : fn.body = some c) {args : List Value} {os : List AObj} {R : Value → List AObj → List AObj → Gho → Prop}
    (h : ∀ O a w, O.h = os.map some → At M O ⟨args ++ List.replicate (fn.ntmps - args.length) undef, os.map some⟩ [] (fun _ _ => False) a w → c.wp P (Done P M O fn os.length R) a w) : ACallsG P M f args os R := fun m w args' r hargs => by
  refine calls_of_wp hf hb (wp_mono (h ⟨m, os.map some, w⟩ _ w rfl (At.start r hargs fn.ntmps)) ?_)
  rintro e a1 w1 ⟨he, s, nm, g, v, os', ns, ⟨m1, hat⟩, hfin, hR⟩
  unfold finA at hfin
  split at hfin
  · obtain ⟨h1, v', m', hrun, htr, hvr, hdis⟩ := fin_at (P := P) hat.tr hat.t hfin
    rcases he with rfl | rfl
    · exact ⟨hat.d, v', hrun, v, os', ns, g, v', m', hR, h1, rfl, htr, hvr, fun b x hx => ⟨(hat.g b x hx).1, (hat.g b x hx).2.1, hdis b (hat.g b x hx).2.2⟩⟩
    · exact ⟨hat.d, v', hrun, v, os', ns, g, v', m', hR, h1, rfl, htr, hvr, fun b x hx => ⟨(hat.g b x hx).1, (hat.g b x hx).2.1, hdis b (hat.g b x hx).2.2⟩⟩
  · cases hfin

/-- Nothing known is left: a contract. -/
theorem acalls_of_at {f : FuncId} {fn : Func} {c : Code} (hf : P.funcs[f]? = some fn) (hb : fn.body = some c) {args : List Value} {os : List AObj} {v : Value} {os' ns : List AObj} (hl : os'.length = os.length)
    (h : ∀ O a w, O.h = os.map some → At M O ⟨args ++ List.replicate (fn.ntmps - args.length) undef, os.map some⟩ [] (fun _ _ => False) a w → c.wp P (Done P M O fn os.length fun v1 o1 n1 _ => v1 = v ∧ o1 = os' ∧ n1 = ns) a w) : ACalls P M f args os v os' ns := by
  refine ⟨hl, fun m w args' r hargs => ?_⟩
  refine (acallsG_of_at hf hb h m w args' r hargs).mono ?_
  rintro e w' ⟨v1, o1, n1, g, v', m', ⟨rfl, rfl, rfl⟩, _, he, htr, hvr, _⟩
  exact ⟨v', m', he, htr, hvr⟩

/-- A call that leaves what it is handed as it is, and lays no objects: what it hands back is plain. -/
theorem At.callG {O : Org} {ops : Array Oper} {Q : Exit → Go.Act → World → Prop} {i : Nat} {rest : List Nat} {s : ASt} {nm : List (Nat × Nat)} {g : Gho} {a : Go.Act} {w : World} (h : At M O s nm g a w) {o : Oper} {fx : Operand} {xs : Array Operand} {ts : Array TypeId}
    (ho : ops[i]? = some o) (hg : o.guard = none) (hop : o.op = .call ⟨.value fx, xs, ts⟩) {f : FuncId} (hf : aev s.tmps fx = some (.func (.func f) #[] #[])) (hen : Enters P f) {us : List Value} (hus : avals (aev s.tmps) xs.toList = some us)
    {L : List Nat} (hnd : nodupB L = true) {objs lo : List AObj} {largs : List Value} (hgat : gather s.heap L = some objs) (hlo : renOs (idx L) objs = some lo) (hla : renL (idx L) us = some largs) {R : Value → Gho → Prop} (hgr : ∀ v g, R v g → ground v = true)
    (hc : ACallsG P M f largs lo fun v os' ns g => os' = lo ∧ ns = [] ∧ R v g)
    (hk : ∀ v g1 w', R v g1 → w.heap.size ≤ w'.heap.size → (∀ b x, g1 b x → w.heap.size ≤ b) → At M O ⟨aput s.tmps o.dst v, s.heap⟩ nm (fun b x => g b x ∨ g1 b x) (a.put o.dst v) w' → wpOps P ops Q rest (a.put o.dst v) w') (hnm : nmOk nm s.heap s.heap = true) : wpOps P ops Q (i :: rest) a w := by
  obtain ⟨m, h⟩ := h
  have hd := nodupB_sound hnd
  have hfe : a.eval fx = .func (.func f) #[] #[] := (aev_sound h.t hf).eq rfl
  have hul : LRel m s.heap us (xs.toList.map a.eval) := avals_sound (fun x u hx => aev_sound h.t hx) _ _ hus
  obtain ⟨hr1, hemb⟩ := restrict h.tr.rel hd hgat hlo
  have hw : Region.wanted o (yielded ops a.tmps) = true := by unfold Region.wanted; rw [hg]
  simp only [wpOps, ho, hw, if_true]
  refine .inl ?_
  have harr : (#[] ++ xs.map a.eval ++ #[] : Array Value) = xs.map a.eval := by simp
  simp only [Oper.wp, execOp_call hop hfe hen, Oper.upon, harr]
  have hargs := hul.ren hemb hla
  refine (hc _ w (xs.map a.eval) hr1 (by simpa using hargs)).mono fun e w' he => ?_
  obtain ⟨v, os', ns, g1, v', m', ⟨hos, rfl, hR⟩, hlen, rfl, htr, hvr, hgh⟩ := he
  subst hos
  have hgv := hgr _ _ hR
  have hv' := hvr.eq hgv
  subst hv'
  have hback := renOs_back (idx_outN (b := s.heap.length)) hlo
  obtain ⟨ht, hem⟩ := graft h.tr.rel hd hgat hlo htr rfl hback (ng := []) rfl (Room.end_ _ _)
  rw [scatter_same hgat] at ht hem
  have hat : AtM M O ⟨aput s.tmps o.dst v', s.heap⟩ nm g (a.put o.dst v') w' (plBack m m' L s.heap.length 0) := h.step ht (aput_sound (h.t.mono ht.ext) (.same hgv)) (by cases o.dst <;> exact h.d) hnm
  refine hk v' g1 w' hR ht.size (fun b x hx => (hgh b x hx).2.1) ⟨_, hat.r0, hat.tr, hat.t, hat.d, hat.nm, fun b x hx => ?_⟩
  rcases hx with hx | hx
  · exact hat.g b x hx
  · obtain ⟨h1, h2, h3⟩ := hgh b x hx
    refine ⟨h1, Nat.le_trans h.tr.size h2, fun j p hp he => ?_⟩
    simp only [plBack, Nat.add_zero] at he
    cases hj : idx L j with
    | some k =>
      rw [hj] at he
      simp only at he
      obtain ⟨q1, q2⟩ := renOs_get hlo
      obtain ⟨p1, p2⟩ := gather_get hgat
      have hLk := idx_get hj
      have hkl : k < os'.length := by have := (List.getElem?_eq_some_iff.1 hLk).1; omega
      exact h3 k os'[k] (by rw [hget_map, List.append_nil]; exact List.getElem?_eq_getElem hkl) he
    | none =>
      rw [hj] at he
      simp only at he
      rw [if_neg (by omega)] at he
      have := h.tr.rel.lt hp
      omega
end
end Go.Ab

namespace Go.Ab

/-- The statements of code, one behind the other. -/
def items : Code → List Code
  | .seq x y => items x ++ items y
  | c => [c]

def itemN (c : Code) (k : Nat) : Code := (items c).getD k .skip

def wpL (P : Program) (Q : Exit → Go.Act → World → Prop) : List Code → Go.Act → World → Prop
  | [], a, w => Q .normal a w
  | c :: r, a, w => c.wp P (Exit.then (wpL P Q r) Q) a w

section
variable {P : Program}

theorem wp_then {c : Code} {K : Go.Act → World → Prop} {Q : Exit → Go.Act → World → Prop} {a : Go.Act} {w : World} {e0 : Exit} {R : Go.Act → World → Prop} (h : c.wp P (fun e a1 w1 => e = e0 ∧ R a1 w1) a w)
    (hn : e0 = .normal → ∀ a1 w1, R a1 w1 → K a1 w1) (ho : e0 ≠ .normal → ∀ a1 w1, R a1 w1 → Q e0 a1 w1) : c.wp P (Exit.then K Q) a w := by
  refine wp_mono h ?_
  rintro e a1 w1 ⟨rfl, hR⟩
  cases e with
  | normal => exact hn rfl a1 w1 hR
  | exit i => exact ho (by simp) a1 w1 hR
  | goto l => exact ho (by simp) a1 w1 hR
  | ret => exact ho (by simp) a1 w1 hR
  | panic c => exact ho (by simp) a1 w1 hR
  | outgrown => exact ho (by simp) a1 w1 hR

theorem wp_items_then {Q : Exit → Go.Act → World → Prop} : ∀ (c : Code) (rest : List Code) {a : Go.Act} {w : World}, wpL P Q (items c ++ rest) a w → c.wp P (Exit.then (wpL P Q rest) Q) a w := by
  intro c
  induction c with
  | seq x y ih1 ih2 =>
    intro rest a w h
    refine wp_seq ?_
    simp only [items, List.append_assoc] at h
    refine wp_mono (ih1 _ h) fun e a1 w1 he => ?_
    cases e with
    | normal => exact ih2 _ he
    | exit i => exact he
    | goto l => exact he
    | ret => exact he
    | panic c => exact he
    | outgrown => exact he
  | _ =>
    intro rest a w h
    exact h

theorem wp_items {Q : Exit → Go.Act → World → Prop} (c : Code) {a : Go.Act} {w : World} (h : wpL P Q (items c) a w) : c.wp P Q a w := by
  refine wp_mono (wp_items_then c [] (by rw [List.append_nil]; exact h)) fun e a1 w1 he => ?_
  cases e <;> exact he

theorem wpL_end {Q : Exit → Go.Act → World → Prop} {cs : List Code} {a : Go.Act} {w : World} (h : wpL P Q (cs ++ []) a w) : wpL P Q cs a w := by rwa [List.append_nil] at h
theorem wpL_mono {Q Q' : Exit → Go.Act → World → Prop} (h : ∀ e a w, Q e a w → Q' e a w) : ∀ {cs : List Code} {a : Go.Act} {w : World}, wpL P Q cs a w → wpL P Q' cs a w := by
  intro cs
  induction cs with
  | nil => intro a w hq; exact h _ _ _ hq
  | cons c r ih =>
    intro a w hq
    refine wp_mono hq fun e a1 w1 he => ?_
    cases e with
    | normal => exact ih he
    | exit i => exact h _ _ _ he
    | goto l => exact h _ _ _ he
    | ret => exact h _ _ _ he
    | panic c => exact h _ _ _ he
    | outgrown => exact h _ _ _ he

theorem wpL_cons {Q : Exit → Go.Act → World → Prop} {c : Code} {r : List Code} {a : Go.Act} {w : World} {R : Go.Act → World → Prop} (h : c.wp P (fun e a1 w1 => e = .normal ∧ R a1 w1) a w) (k : ∀ a1 w1, R a1 w1 → wpL P Q r a1 w1) : wpL P Q (c :: r) a w :=
  wp_then h (fun _ => k) fun hne => absurd rfl hne
end

section
variable (P : Program) (M : Mem) (ov : Ov) (uns : List Nat) (lp : Hooks) (l : List Sum) (sym : List Nat)
def evL (n : Nat) : List Code → ASt → List Bool → Option (AExit × ASt × List Bool × Pins)
  | [], s, orc => some (.normal, s, orc, [])
  | c :: r, s, orc => match evU P M ov uns lp l sym n c s orc with
    | some (.normal, s1, o1, p1) => match evL n r s1 o1 with
      | some (e, s2, o2, p2) => some (e, s2, o2, p1 ++ p2)
      | none => none
    | x => x
end

section
variable {P : Program} {M : Mem} {O : Org}

def BigL (P : Program) (M : Mem) (cs : List Code) (s : ASt) (e : AExit) (s' : ASt) : Prop :=
  ∀ (rest : List Code) (Q : Exit → Go.Act → World → Prop) (m : Pl) (a : Go.Act) (w : World), HRel M m s.heap w → TRel m s.heap s.tmps a.tmps → a.defers = [] →
    (e = .normal → ∀ m1 a1 w1, Tr M m s.heap w m1 s'.heap w1 → TRel m1 s'.heap s'.tmps a1.tmps → a1.defers = [] → wpL P Q rest a1 w1) →
    (e ≠ .normal → ∀ m1 a1 w1, Tr M m s.heap w m1 s'.heap w1 → TRel m1 s'.heap s'.tmps a1.tmps → a1.defers = [] → Q e.to a1 w1) → wpL P Q (cs ++ rest) a w

theorem AExit.to_ne {e : AExit} (h : e.to ≠ .normal) : e ≠ .normal := fun he => h (by rw [he]; rfl)
theorem AExit.to_eq {e : AExit} (h : e.to = .normal) : e = .normal := by cases e <;> first | rfl | cases h

theorem evL_big {ov : Ov} {uns : List Nat} {lp : Hooks} {l : List Sum} {sym : List Nat} (hov : OvOk P M ov) (hl : ∀ s ∈ l, s.SoundC P M) (hmix : P.follows .mixedOrders = true) {n : Nat} : ∀ (cs : List Code) {s s' : ASt} {orc r : List Bool} {p : Pins} {e : AExit}, (∀ c ∈ cs, HooksOk P M lp c) →
    evL P M ov uns lp l sym n cs s orc = some (e, s', r, p) → Held p → BigL P M cs s e s' := by
  intro cs
  induction cs with
  | nil =>
    intro s s' orc r p e _ h _
    cases h
    intro rest Q m a w hr ht hd hn _
    exact hn rfl m a w (.refl hr) ht hd
  | cons c cs ih =>
    intro s s' orc r p e hh h hp
    simp only [evL] at h
    cases h1 : evU P M ov uns lp l sym n c s orc with
    | none => rw [h1] at h; cases h
    | some x =>
      obtain ⟨e1, s1, o1, p1⟩ := x
      rw [h1] at h
      intro rest Q m a w hr ht hd hn ho
      show c.wp P (Exit.then (wpL P Q (cs ++ rest)) Q) a w
      cases e1 with
      | normal =>
        simp only at h
        cases h2 : evL P M ov uns lp l sym n cs s1 o1 with
        | none => rw [h2] at h; cases h
        | some y =>
          obtain ⟨e2, s2, o2, p2⟩ := y
          rw [h2] at h
          cases h
          refine wp_then (e0 := .normal) ((evU_big hov hl hmix n c (hh c (by simp)) h1 hp.left).1 m a w hr ht hd) (fun _ a1 w1 hR => ?_) fun hne => absurd rfl hne
          obtain ⟨m1, htr, ht1, hd1⟩ := hR
          refine ih (fun c' hc' => hh c' (by simp [hc'])) h2 hp.right rest Q m1 a1 w1 htr.rel ht1 hd1 (fun he m2 a2 w2 htr2 ht2 hd2 => ?_) (fun he m2 a2 w2 htr2 ht2 hd2 => ?_)
          · exact hn he m2 a2 w2 (htr.trans htr2) ht2 hd2
          · exact ho he m2 a2 w2 (htr.trans htr2) ht2 hd2
      | exit i =>
        cases h
        refine wp_then (e0 := .exit i) ((evU_big hov hl hmix n c (hh c (by simp)) h1 hp).1 m a w hr ht hd) (fun he => by cases he) fun _ a1 w1 hR => ?_
        obtain ⟨m1, htr, ht1, hd1⟩ := hR
        exact ho (by simp) m1 a1 w1 htr ht1 hd1
      | ret =>
        cases h
        refine wp_then (e0 := .ret) ((evU_big hov hl hmix n c (hh c (by simp)) h1 hp).1 m a w hr ht hd) (fun he => by cases he) fun _ a1 w1 hR => ?_
        obtain ⟨m1, htr, ht1, hd1⟩ := hR
        exact ho (by simp) m1 a1 w1 htr ht1 hd1

/-- Some statements, evaluated, in a run beside known blocks. -/
theorem At.items {ov : Ov} {uns : List Nat} {lp : Hooks} {l : List Sum} {sym : List Nat} (hov : OvOk P M ov) (hl : ∀ s ∈ l, s.SoundC P M) (hmix : P.follows .mixedOrders = true) {fuel : Nat} {cs rest : List Code} {orc : List Bool} (hlp : ∀ c ∈ cs, HooksOk P M lp c) {s : ASt} {live' : List Nat} {V' : List Value} {H' : AHeap}
    {nm : List (Nat × Nat)} {g : Gho} {a : Go.Act} {w : World} {e : AExit} {N' : Nat} {p : Pins} {Q : Exit → Go.Act → World → Prop} (h : At M O s nm g a w) (hz : viewU live' (evL P M ov uns lp l sym fuel cs s orc) = some (e, V', H', N', p)) (hp : Held p) (hn : nmOk nm s.heap H' = true)
    (k : e = .normal → ∀ a1 w1, AtV M O N' live' V' H' nm g a1 w1 → wpL P Q rest a1 w1) (ko : e ≠ .normal → ∀ a1 w1, AtV M O N' live' V' H' nm g a1 w1 → Q e.to a1 w1) : wpL P Q (cs ++ rest) a w := by
  obtain ⟨m, h⟩ := h
  cases hr : evL P M ov uns lp l sym fuel cs s orc with
  | none => rw [hr] at hz; cases hz
  | some x =>
    obtain ⟨e1, s1, o1, p1⟩ := x
    rw [hr] at hz
    simp only [viewU, Option.some.injEq, Prod.mk.injEq] at hz
    obtain ⟨rfl, rfl, rfl, rfl, rfl⟩ := hz
    refine evL_big hov hl hmix cs hlp hr hp rest Q m a w h.tr.rel h.t h.d (fun he m1 a1 w1 tr ht hd => ?_) (fun he m1 a1 w1 tr ht hd => ?_)
    · exact k he a1 w1 (.of ⟨m1, h.step tr ht hd hn⟩ live')
    · exact ko he a1 w1 (.of ⟨m1, h.step tr ht hd hn⟩ live')

theorem AtV.items {ov : Ov} {uns : List Nat} {lp : Hooks} {l : List Sum} {sym : List Nat} (hov : OvOk P M ov) (hl : ∀ s ∈ l, s.SoundC P M) (hmix : P.follows .mixedOrders = true) {fuel : Nat} {cs rest : List Code} {orc : List Bool} (hlp : ∀ c ∈ cs, HooksOk P M lp c) {N : Nat} {live live' : List Nat} {V V' : List Value} {H H' : AHeap}
    {nm : List (Nat × Nat)} {g : Gho} {a : Go.Act} {w : World} {e : AExit} {N' : Nat} {p : Pins} {Q : Exit → Go.Act → World → Prop} (h : AtV M O N live V H nm g a w) (hev : ∀ z, viewU live' (evL P M ov uns lp l sym fuel cs ⟨mkT N live V z, H⟩ orc) = some (e, V', H', N', p)) (hp : Held p) (hn : nmOk nm H H' = true)
    (k : e = .normal → ∀ a1 w1, AtV M O N' live' V' H' nm g a1 w1 → wpL P Q rest a1 w1) (ko : e ≠ .normal → ∀ a1 w1, AtV M O N' live' V' H' nm g a1 w1 → Q e.to a1 w1) : wpL P Q (cs ++ rest) a w := by
  obtain ⟨z, h⟩ := h
  exact h.items hov hl hmix hlp (hev z) hp hn k ko

/-- A block, statement by statement. -/
theorem wp_block_items {id : Nat} {c : Code} {Q : Exit → Go.Act → World → Prop} {a : Go.Act} {w : World} (h : wpL P (Exit.inBlock id Q) (Go.Ab.items c) a w) : (Code.block id c).wp P Q a w := wp_block (wp_items c h)

def viewW (live : List Nat) (r : Option (ASt × List FP × List Bool × Pins)) : Option (List Value × AHeap × Nat × Pins) :=
  match r with
  | some (s, _, _, p) => some (lookT s.tmps live, s.heap, s.tmps.length, p)
  | none => none

/-- Some operations of a statement, without their checks. -/
theorem AtV.opsU {ov : Ov} {uns : List Nat} {l : List Sum} {sym : List Nat} (hov : OvOk P M ov) (hl : ∀ s ∈ l, s.SoundC P M) {cl : List Nat → List Nat} {ops : Array Oper} {Q : Exit → Go.Act → World → Prop} {is rest : List Nat} {orc : List Bool} {N N' : Nat} {live live' : List Nat} {V V' : List Value} {H H' : AHeap}
    {nm : List (Nat × Nat)} {g : Gho} {a : Go.Act} {w : World} {p : Pins} (h : AtV M O N live V H nm g a w) (hs : ∀ z, viewW live' (rtraceU P M ov uns l sym cl ops is ⟨mkT N live V z, H⟩ orc) = some (V', H', N', p)) (hp : Held p) (hn : nmOk nm H H' = true)
    (k : ∀ a1 w1, AtV M O N' live' V' H' nm g a1 w1 → wpOps P ops Q rest a1 w1) : wpOps P ops Q (is ++ rest) a w := by
  obtain ⟨z, h⟩ := h
  have hz := hs z
  cases hr : rtraceU P M ov uns l sym cl ops is ⟨mkT N live V z, H⟩ orc with
  | none => rw [hr] at hz; cases hz
  | some x =>
    obtain ⟨s', fps, o1, p1⟩ := x
    rw [hr] at hz
    simp only [viewW, Option.some.injEq, Prod.mk.injEq] at hz
    obtain ⟨rfl, rfl, rfl, rfl⟩ := hz
    exact h.ops (fnsC_sound hl) (rtraceU_eq hov is hr hp).2 hn fun a1 w1 h1 => k a1 w1 (.of h1 live')

/-- The operations of a statement that is no drawn one. -/
def opsOf : Code → Array Oper
  | .region _ ops _ => ops
  | _ => #[]
def drawOf : Code → Bool
  | .region _ _ d => d
  | _ => true

theorem wp_rgn {c : Code} {Q : Exit → Go.Act → World → Prop} {a : Go.Act} {w : World} (hd : drawOf c = false) {l : List Nat} (hl : List.range (opsOf c).size = l) (h : wpOps P (opsOf c) Q l a w) : c.wp P Q a w := by
  cases c with
  | region id ops d =>
    simp only [drawOf] at hd
    subst hd
    subst hl
    exact wp_region h
  | _ => cases hd
end

/-! ### Structs of numbers and truths, loaded from unknown places -/
inductive Shp where
  | int (k : IntKind)
  | bool
  | raw

def vbool : Value → Bool
  | .bool b => b
  | _ => false
def isB : Value → Bool
  | .bool _ => true
  | _ => false
def Shp.val : Shp → Value → Value
  | .int k, v => .int k (vint v)
  | .bool, v => .bool (vbool v)
  | .raw, v => v
def Shp.is : Shp → Value → Bool
  | .int k, v => isI k v
  | .bool, v => isB v
  | .raw, _ => true

theorem Shp.eq {s : Shp} {v : Value} (h : s.is v = true) : s.val v = v := by
  cases s with
  | int k => exact (isI_eq h).symm
  | bool => cases v <;> simp [Shp.is, isB] at h; rfl
  | raw => rfl

def shpU (cells : List Value) (off : Nat) : List Shp → List Value
  | [] => []
  | s :: r => s.val (atC cells off) :: shpU cells (off + 1) r
def shpB (cells : List Value) (off : Nat) : List Shp → Bool
  | [] => true
  | s :: r => s.is (atC cells off) && shpB cells (off + 1) r

theorem shpU_eq {cells : List Value} : ∀ {sh : List Shp} {off : Nat}, shpB cells off sh = true → off + sh.length ≤ cells.length → (cells.drop off).take sh.length = shpU cells off sh := by
  intro sh
  induction sh with
  | nil => intro off _ _; rfl
  | cons s r ih =>
    intro off h hl
    simp only [shpB, Bool.and_eq_true] at h
    simp only [List.length_cons] at hl ⊢
    have hlt : off < cells.length := by omega
    rw [List.drop_eq_getElem_cons hlt, List.take_succ_cons, ih h.2 (by omega)]
    have e : cells[off] = atC cells off := by simp [atC, hlt]
    simp only [shpU]
    rw [e, Shp.eq h.1]

/-- Types of structs with what their cells are. -/
def ovS (sh : Nat → Option (List Shp)) (P : Program) (M : Mem) : Ov := fun h ρ op => match op with
  | .load t x => match sh t, ρ x with
    | some ss, some (.pointer (some ⟨b, off, some sz⟩)) => match szOf P t, aggT P t, hget h b with
      | some m, some true, some o => if Nat.beq m ss.length then some (uAct [b] [] fun _ => (.agg ⟨shpU o.cells off ss⟩, [], []), [(decide (o.cells.length = sz) && (decide (off + m ≤ sz) && shpB o.cells off ss), true)]) else none
      | _, _, _ => none
    | _, _ => ovE P M h ρ (.load t x)
  | op => ovE P M h ρ op

theorem ovS_ok (sh : Nat → Option (List Shp)) (P : Program) (M : Mem) : OvOk P M (ovS sh P M) := by
  intro K cl h ρ op act p hov hp
  unfold ovS at hov
  split at hov
  · rename_i t x
    split at hov
    · rename_i ss b off sz hs hx
      split at hov
      · rename_i m o hm ha ho
        split at hov
        · rename_i hl
          have hl := Nat.eq_of_beq_eq_true hl
          cases hov
          rw [held_one_iff] at hp
          simp only [Bool.and_eq_true, decide_eq_true_eq] at hp
          obtain ⟨h1, h2, h3⟩ := hp
          refine ⟨loadAct P M t ⟨b, off, some sz⟩, by simp only [opAct, hx], uAct_same rfl rfl (gather_one' ho) (gather_nil h) fun _ => ?_⟩
          have he := shpU_eq h3 (by omega)
          rw [← hl] at he
          simp only [loadAct, oval, h1, if_true, ha, hm, h2, he]
        · cases hov
      · cases hov
    · exact ovE_ok P M K cl h ρ _ act p hov hp
  · exact ovE_ok P M K cl h ρ _ act p hov hp
end Go.Ab

namespace Go.Ab

/-- The objects that are kept, under new numbers; the values named. -/
def compactV (keep : List Nat) (i0 : Nat) (V : List Value) (H : AHeap) : Option (List Value × List AObj) :=
  if nodupB keep then match gather H keep with
    | some objs => match renOs (idx keep) objs, renL (idx keep) V with
      | some lo, some V' => match lo[i0]? with
        | some o => if Nat.blt 0 o.cells.length then some (V', lo) else none
        | none => none
      | _, _ => none
    | none => none
  else none

section
variable {P : Program} {M : Mem} {O : Org}

theorem AtV.compact {N : Nat} {live : List Nat} {V V' : List Value} {H : AHeap} {lo : List AObj} {nm : List (Nat × Nat)} {g : Gho} {a : Go.Act} {w : World} (h : AtV M O N live V H nm g a w) {keep : List Nat} {i0 : Nat} (hc : compactV keep i0 V H = some (V', lo))
    (hO : ∀ i, i < O.h.length → keep[i]? = some i) : AtV M O N live V' (lo.map some) [] g a w := by
  obtain ⟨z, m, h⟩ := h
  unfold compactV at hc
  split at hc
  · rename_i hnd
    have hd := nodupB_sound hnd
    split at hc
    · rename_i objs hg
      split at hc
      · rename_i lo1 V1 hlo hV
        split at hc
        · rename_i o0 ho0
          split at hc
          · rename_i hne
            cases hc
            have hne := Nat.blt_eq.mp hne
            obtain ⟨hr1, hemb⟩ := restrict h.tr.rel hd hg hlo
            obtain ⟨g1, g2⟩ := gather_get hg
            obtain ⟨l1, l2⟩ := renOs_get hlo
            have h0 : hget (lo.map some) i0 = some o0 := by rw [hget_map]; exact ho0
            have obj : ∀ i p, hget (lo.map some) i = some p → ∃ j q, keep[i]? = some j ∧ hget H j = some q ∧ keep.getD i 0 = j := fun i p hp => by
              rw [hget_map] at hp
              obtain ⟨q, hq1, hq2⟩ := l2 i p hp
              have hil : i < keep.length := by have := (List.getElem?_eq_some_iff.1 hq1).1; omega
              obtain ⟨q', hq3, hq4⟩ := g2 i _ (List.getElem?_eq_getElem hil)
              exact ⟨keep[i], q', List.getElem?_eq_getElem hil, hq4, by rw [List.getD_eq_getElem?_getD, List.getElem?_eq_getElem hil]; rfl⟩
            refine ⟨fun t => staleV i0 (z t), fun j => m (keep.getD j 0), h.r0, ⟨hr1, fun i o ho => ?_, h.tr.os, h.tr.tape, h.tr.output, h.tr.size, h.tr.frame, fun i p hp => ?_⟩, ?_, h.d, fun p hp => absurd hp (by simp), fun b x hb => ?_⟩
            · have hi := hget_lt ho
              have hLi := hO i hi
              obtain ⟨o', ho', e1, e2, e3, e4, e5⟩ := h.tr.ext i o ho
              have hil : i < lo.length := by have := (List.getElem?_eq_some_iff.1 hLi).1; omega
              obtain ⟨q, hq1, hq2⟩ := l2 i lo[i] (List.getElem?_eq_getElem hil)
              obtain ⟨q', hq3, hq4⟩ := g2 i i hLi
              rw [hq1] at hq3; cases hq3
              simp only at ho'
              rw [ho'] at hq4; cases hq4
              have hp := renO_props hq2
              refine ⟨lo[i], by rw [hget_map]; exact List.getElem?_eq_getElem hil, by rw [hp.1, e1], by rw [hp.2.1, e2], by rw [hp.2.2.1, e3], by rw [hp.2.2.2]; exact e4, fun hl => ?_⟩
              have := e5 (by rw [← hp.2.2.2]; exact hl)
              show m (keep.getD i 0) = O.m i
              rw [List.getD_eq_getElem?_getD, hLi]
              exact this
            · obtain ⟨j, q, h1, h2, h3⟩ := obj i p hp
              show O.w.heap.size ≤ (m (keep.getD i 0)).1 ∨ _
              rw [h3]
              exact h.tr.own j q h2
            · obtain ⟨v1, v2⟩ := renL_get hV
              refine ⟨by have := h.t.1; simp [mkT] at this ⊢; exact this, fun t u v hu hv => ?_⟩
              obtain ⟨ht, hu⟩ := mkT_get hu
              have hold := h.t.2 t _ v (mkT_at ht) hv
              rcases hu with ⟨k, hk, rfl⟩ | ⟨hk, rfl⟩
              · rw [hk] at hold
                simp only at hold
                by_cases hkl : k < V'.length
                · obtain ⟨p, hp1, hp2⟩ := v2 k V'[k] (List.getElem?_eq_getElem hkl)
                  have e1 : V'.getD k undef = V'[k] := by simp [hkl]
                  have e2 : V.getD k undef = p := by rw [List.getD_eq_getElem?_getD, hp1]; rfl
                  rw [e1]
                  rw [e2] at hold
                  exact hold.ren hemb hp2
                · have e1 : V'.getD k undef = undef := by simp [hkl]
                  have e2 : V.getD k undef = undef := by rw [List.getD_eq_getElem?_getD, List.getElem?_eq_none (by omega)]; rfl
                  rw [e2] at hold
                  rw [e1]
                  have := hold.eq rfl
                  subst this
                  exact .same rfl
              · rw [hk] at hold; exact hold.stale h0 hne
            · obtain ⟨k1, k2, k3⟩ := h.g b x hb
              refine ⟨k1, k2, fun i p hp => ?_⟩
              obtain ⟨j, q, h1, h2, h3⟩ := obj i p hp
              show (m (keep.getD i 0)).1 ≠ b
              rw [h3]
              exact k3 j q h2
          · cases hc
        · cases hc
      · cases hc
    · cases hc
  · cases hc

/-- The world turns in the cells of one object: these cells stand in its block now. -/
theorem At.turn {s : ASt} {nm : List (Nat × Nat)} {g : Gho} {a : Go.Act} {w w' : World} (h : At M O s nm g a w) {i : Nat} {o : AObj} (hi : hget s.heap i = some o) (hO : hget O.h i = none) {l : List Value} (hl : l.length = o.cells.length) (hg : groundL l = true)
    (hos : w'.os = w.os) (htape : w'.tape = w.tape) (hout : w'.output = w.output) (hsz : w.heap.size ≤ w'.heap.size)
    (hch : ∀ m, AtM M O s nm g a w m → (∀ b, b < w.heap.size → b ≠ (m i).1 → w'.heap[b]? = w.heap[b]?) ∧
      ∀ cs t fz, w.heap[(m i).1]? = some (.cells cs t fz) → ∃ cs', w'.heap[(m i).1]? = some (.cells cs' t fz) ∧ cs'.size = cs.size ∧ (∀ (j : Nat) v, cs'[j]? = some v → v.oneCell' = true) ∧ ∀ (j : Nat) u, l[j]? = some u → cs'[j]? = some u)
    (hbase : ∀ m, AtM M O s nm g a w m → O.w.heap.size ≤ (m i).1) : At M O ⟨s.tmps, s.heap.set i (some { o with cells := l })⟩ nm g a w' := by
  obtain ⟨m, h⟩ := h
  obtain ⟨hc1, hc2⟩ := hch m h
  have hb0 := hbase m h
  have hilt := hget_lt hi
  have hset : ∀ k, hget (s.heap.set i (some { o with cells := l })) k = if i = k then some { o with cells := l } else hget s.heap k := fun k => by
    by_cases e : i = k
    · subst e; rw [if_pos rfl]; exact hget_set_self hilt _
    · rw [if_neg e]; exact hget_set_ne e _
  have ext : Ext m s.heap m (s.heap.set i (some { o with cells := l })) := fun k p hp => by
    by_cases e : i = k
    · subst e
      rw [hi] at hp; cases hp
      exact ⟨{ o with cells := l }, by rw [hset, if_pos rfl], rfl, rfl, rfl, by simp [hl], fun _ => rfl⟩
    · exact ⟨p, by rw [hset, if_neg e]; exact hp, rfl, rfl, rfl, Nat.le_refl _, fun _ => rfl⟩
  have extO : Ext O.m O.h m (s.heap.set i (some { o with cells := l })) := h.tr.ext.trans ext
  have back : ∀ k p, hget (s.heap.set i (some { o with cells := l })) k = some p → ∃ q, hget s.heap k = some q := fun k p hp => by
    rw [hset] at hp
    by_cases e : i = k
    · exact ⟨o, e ▸ hi⟩
    · rw [if_neg e] at hp; exact ⟨p, hp⟩
  refine ⟨m, h.r0, ⟨⟨fun j k oj ok hj hk he => ?_, fun k p hp => ?_, fun b off v hv => ?_, fun b x hx => ?_⟩, extO, hos.trans h.tr.os, htape.trans h.tr.tape, hout.trans h.tr.output, Nat.le_trans h.tr.size hsz, fun b hb hn => ?_, fun k p hp => ?_⟩, h.t.mono ext, h.d, h.nm, fun b x hb => ?_⟩
  · obtain ⟨p, hp⟩ := back j oj hj
    obtain ⟨q, hq⟩ := back k ok hk
    exact h.tr.rel.inj j k p q hp hq he
  · by_cases e : i = k
    · subst e
      rw [hset, if_pos rfl] at hp; cases hp
      obtain ⟨cs, t, fz, x⟩ := h.tr.rel.obj i o hi
      obtain ⟨cs', k1, k2, k3, k4⟩ := hc2 cs t fz x.blk
      refine ⟨cs', t, fz, k1, by rw [k2]; exact x.size, by simp only; rw [hl, k2]; exact x.len, by rw [k2]; exact x.free, k3, fun _ => hg, fun j u v hu hv => ?_⟩
      have := k4 j u hu
      rw [hv] at this; cases this
      exact .same (groundL_get hg hu)
    · rw [hset, if_neg e] at hp
      obtain ⟨cs, t, fz, x⟩ := h.tr.rel.obj k p hp
      have hne : (m k).1 ≠ (m i).1 := fun he => e (h.tr.rel.inj k i p o hp hi he).symm
      exact ⟨cs, t, fz, by rw [hc1 _ (h.tr.rel.lt hp) hne]; exact x.blk, x.size, x.len, x.free, x.one, x.flat, fun j u v hu hv => (x.rel j u v hu hv).mono ext⟩
  · obtain ⟨h1, h2, h3, h4⟩ := h.tr.rel.ro b off v hv
    refine ⟨?_, h2, h3, fun k p hp => ?_⟩
    · rw [cell_of_heap (a := ⟨b, off, none⟩) (hc1 b (h.tr.rel.ro_lt hv) (fun he => h4 i o hi he.symm))]; exact h1
    · obtain ⟨q, hq⟩ := back k p hp; exact h4 k q hq
  · obtain ⟨h1, h4⟩ := h.tr.rel.big b x hx
    refine ⟨(hc1 b (h.tr.rel.big_lt hx) (fun he => h4 i o hi he.symm)).trans h1, fun k p hp => ?_⟩
    obtain ⟨q, hq⟩ := back k p hp; exact h4 k q hq
  · rw [hc1 b (Nat.lt_of_lt_of_le hb h.tr.size) (by omega)]
    exact h.tr.frame b hb hn
  · obtain ⟨q, hq⟩ := back k p hp; exact h.tr.own k q hq
  · obtain ⟨k1, k2, k3⟩ := h.g b x hb
    have hne : b ≠ (m i).1 := fun he => k3 i o hi he.symm
    exact ⟨by rw [hc1 b (h.lt hb) hne]; exact k1, k2, fun k p hp => by obtain ⟨q, hq⟩ := back k p hp; exact k3 k q hq⟩
/-- An object whose cells are plain may be called so. -/
theorem AtV.flatten {N : Nat} {live : List Nat} {V : List Value} {H : AHeap} {nm : List (Nat × Nat)} {g : Gho} {a : Go.Act} {w : World} (h : AtV M O N live V H nm g a w) {i : Nat} {o : AObj} (hi : hget H i = some o) (hO : hget O.h i = none) (hg : groundL o.cells = true) :
    AtV M O N live V (H.set i (some { o with flat := true })) nm g a w := by
  obtain ⟨z, m, h⟩ := h
  have hilt := hget_lt hi
  have hset : ∀ k, hget (H.set i (some { o with flat := true })) k = if i = k then some { o with flat := true } else hget H k := fun k => by
    by_cases e : i = k
    · subst e; rw [if_pos rfl]; exact hget_set_self hilt _
    · rw [if_neg e]; exact hget_set_ne e _
  have emb : Emb some m H m (H.set i (some { o with flat := true })) := fun k j p hj hp => by
    cases hj
    by_cases e : i = k
    · subst e
      rw [hi] at hp; cases hp
      exact ⟨{ o with flat := true }, by rw [hset, if_pos rfl], rfl, rfl, rfl, rfl⟩
    · exact ⟨p, by rw [hset, if_neg e]; exact hp, rfl, rfl, rfl, rfl⟩
  have back : ∀ k p, hget (H.set i (some { o with flat := true })) k = some p → ∃ q, hget H k = some q ∧ p.cells = q.cells ∧ p.grow = q.grow ∧ p.esz = q.esz := fun k p hp => by
    rw [hset] at hp
    by_cases e : i = k
    · subst e; rw [if_pos rfl] at hp; cases hp; exact ⟨o, hi, rfl, rfl, rfl⟩
    · rw [if_neg e] at hp; exact ⟨p, hp, rfl, rfl, rfl⟩
  have up : ∀ {u v : Value}, VRel m H u v → VRel m (H.set i (some { o with flat := true })) u v := fun {u v} hr => by
    have aux : ∀ {u v : Value}, VRel m H u v → VRel m (H.set i (some { o with flat := true })) u v := by
      intro u v hr
      induction hr with
      | same hg => exact .same hg
      | ptr ho hle hv => obtain ⟨o', h1, h2, h3, h4, h5⟩ := emb _ _ _ rfl ho; exact .ptr h1 (by omega) fun hs => by exact hv (by omega)
      | slc ho hle hc hv => obtain ⟨o', h1, h2, h3, h4, h5⟩ := emb _ _ _ rfl ho; exact .slc h1 (by omega) hc fun hs => by rw [h2, h3]; exact hv (by omega)
      | func hx _ hy _ ihx ihy => exact .func hx ihx hy ihy
      | iface _ ih => exact .iface ih
      | agg hx _ ih => exact .agg hx ih
      | tuple hx _ ih => exact .tuple hx ih
    exact aux hr
  refine ⟨z, m, h.r0, ⟨⟨fun j k oj ok hj hk he => ?_, fun k p hp => ?_, fun b off v hv => ?_, fun b x hx => ?_⟩, fun k p hp => ?_, h.tr.os, h.tr.tape, h.tr.output, h.tr.size, h.tr.frame, fun k p hp => ?_⟩, ⟨h.t.1, fun t u v hu hv => up (h.t.2 t u v hu hv)⟩, h.d, h.nm, fun b x hb => ?_⟩
  · obtain ⟨p, hp, _⟩ := back j oj hj
    obtain ⟨q, hq, _⟩ := back k ok hk
    exact h.tr.rel.inj j k p q hp hq he
  · obtain ⟨q, hq, e1, e2, e3⟩ := back k p hp
    obtain ⟨cs, t, fz, x⟩ := h.tr.rel.obj k q hq
    refine ⟨cs, t, fz, x.blk, x.size, by rw [e1]; exact x.len, x.free, x.one, fun hf => ?_, fun j u v hu hv => up (x.rel j u v (by rw [← e1]; exact hu) hv)⟩
    rw [hset] at hp
    by_cases e : i = k
    · subst e; rw [if_pos rfl] at hp; cases hp; exact hg
    · rw [if_neg e] at hp; rw [hq] at hp; cases hp; exact x.flat hf
  · obtain ⟨h1, h2, h3, h4⟩ := h.tr.rel.ro b off v hv
    exact ⟨h1, h2, h3, fun k p hp => by obtain ⟨q, hq, _⟩ := back k p hp; exact h4 k q hq⟩
  · obtain ⟨h1, h4⟩ := h.tr.rel.big b x hx
    exact ⟨h1, fun k p hp => by obtain ⟨q, hq, _⟩ := back k p hp; exact h4 k q hq⟩
  · obtain ⟨o', h1, h2, h3, h4, h5, h6⟩ := h.tr.ext k p hp
    by_cases e : i = k
    · subst e; rw [hO] at hp; cases hp
    · exact ⟨o', by rw [hset, if_neg e]; exact h1, h2, h3, h4, h5, h6⟩
  · obtain ⟨q, hq, _⟩ := back k p hp; exact h.tr.own k q hq
  · obtain ⟨k1, k2, k3⟩ := h.g b x hb
    exact ⟨k1, k2, fun k p hp => by obtain ⟨q, hq, _⟩ := back k p hp; exact k3 k q hq⟩
end

/-- A load of this type answers this. -/
noncomputable def ovF (t0 : TypeId) (v0 : Value) (sh : Nat → Option (List Shp)) (P : Program) (M : Mem) : Ov := fun h ρ op => match op with
  | .load t x => if Nat.beq t t0 then match ρ x with
      | some (.pointer (some ⟨b, off, some sz⟩)) => match aggT P t, hget h b with
        | some false, some o => some (uAct [b] [] fun _ => (v0, [], []), [(decide (o.cells.length = sz) && @decide (o.cells[off]? = some v0) (Classical.propDecidable _), true)])
        | _, _ => none
      | _ => none
    else ovS sh P M h ρ (.load t x)
  | op => ovS sh P M h ρ op

theorem ovF_ok (t0 : TypeId) (v0 : Value) (sh : Nat → Option (List Shp)) (P : Program) (M : Mem) : OvOk P M (ovF t0 v0 sh P M) := by
  intro K cl h ρ op act p hov hp
  unfold ovF at hov
  split at hov
  · rename_i t x
    split at hov
    · split at hov
      · rename_i b off sz hx
        split at hov
        · rename_i o ha ho
          cases hov
          rw [held_one_iff] at hp
          simp only [Bool.and_eq_true, decide_eq_true_eq] at hp
          obtain ⟨h1, h2⟩ := hp
          refine ⟨loadAct P M t ⟨b, off, some sz⟩, by simp only [opAct, hx], uAct_same rfl rfl (gather_one' ho) (gather_nil h) fun _ => ?_⟩
          simp only [loadAct, oval, h1, if_true, ha, h2]
        · cases hov
      · cases hov
    · exact ovS_ok sh P M K cl h ρ _ act p hov hp
  · exact ovS_ok sh P M K cl h ρ _ act p hov hp
end Go.Ab

namespace Go.Ab

section
variable {P : Program} {M : Mem} {O : Org}

theorem AtV.asCells {N : Nat} {live : List Nat} {V : List Value} {H : AHeap} {nm : List (Nat × Nat)} {g : Gho} {a : Go.Act} {w : World} (h : AtV M O N live V H nm g a w) {i b : Nat} {o : AObj} (hb : (i, b) ∈ nm) (hi : hget H i = some o) (hf : o.flat = true) : (GO.cells o.cells).ok (w.heap[b]?) := by
  obtain ⟨z, m, h⟩ := h
  have hmb : (m i).1 = b := h.nm _ hb
  obtain ⟨cs, t, fz, x⟩ := h.tr.rel.obj _ _ hi
  have hg := x.flat hf
  refine ⟨hg, cs, t, fz, by rw [← hmb]; exact x.blk, x.len, x.free, x.one, fun j u hu => ?_⟩
  have hj : j < cs.size := Nat.lt_of_lt_of_le (List.getElem?_eq_some_iff.1 hu).1 x.len
  have := (x.rel j u cs[j] hu (Array.getElem?_eq_getElem hj)).eq (groundL_get hg hu)
  rw [Array.getElem?_eq_getElem hj, this]

theorem AtV.sliceAt {N : Nat} {live : List Nat} {V : List Value} {H : AHeap} {nm : List (Nat × Nat)} {g : Gho} {a : Go.Act} {w : World} (h : AtV M O N live V H nm g a w) {i b : Nat} {o : AObj} (hb : (i, b) ∈ nm) (hi : hget H i = some o) {x : Operand} {n len cap : Nat} (hn : n = o.cells.length) (hc : 0 < cap)
    (hx : ∀ z, aev (mkT N live V z) x = some (.slice (some ⟨i, 0, some n⟩) len cap)) : ∃ cap', cap ≤ cap' ∧ a.eval x = .slice (some ⟨b, 0, none⟩) len cap' := by
  obtain ⟨z, m, h⟩ := h
  have hr := aev_sound h.t (hx z)
  have hmb : (m i).1 = b := h.nm _ hb
  generalize a.eval x = v at hr
  cases hr with
  | same hg => simp [ground] at hg
  | slc ho hle hcc hv =>
    rename_i cap' o' a'
    simp only at ho
    rw [hi] at ho; cases ho
    obtain ⟨h1, _⟩ := hv hn
    refine ⟨cap', hcc.2, ?_⟩
    rw [h1 (by omega), hmb]

theorem AtV.turn {N : Nat} {live : List Nat} {V : List Value} {H : AHeap} {nm : List (Nat × Nat)} {g : Gho} {a : Go.Act} {w w' : World} (h : AtV M O N live V H nm g a w) {i b : Nat} {o : AObj} (hb : (i, b) ∈ nm) (hbase : O.w.heap.size ≤ b) (hi : hget H i = some o) (hO : hget O.h i = none)
    {l : List Value} (hl : l.length = o.cells.length) (hg : groundL l = true) (hos : w'.os = w.os) (htape : w'.tape = w.tape) (hout : w'.output = w.output) (hsz : w.heap.size ≤ w'.heap.size) (hch : ∀ b', b' < w.heap.size → b' ≠ b → w'.heap[b']? = w.heap[b']?)
    (hblk : ∀ cs t fz, w.heap[b]? = some (.cells cs t fz) → (∀ (j : Nat) v, cs[j]? = some v → v.oneCell' = true) → l.length ≤ cs.size → ∃ cs', w'.heap[b]? = some (.cells cs' t fz) ∧ cs'.size = cs.size ∧ (∀ (j : Nat) v, cs'[j]? = some v → v.oneCell' = true) ∧ ∀ (j : Nat) u, l[j]? = some u → cs'[j]? = some u) :
    AtV M O N live V (H.set i (some { o with cells := l })) nm g a w' := by
  obtain ⟨z, h⟩ := h
  refine ⟨z, h.turn hi hO hl hg hos htape hout hsz (fun m hm => ?_) (fun m hm => ?_)⟩
  · have hmb : (m i).1 = b := hm.nm _ hb
    rw [hmb]
    refine ⟨hch, fun cs t fz hcs => ?_⟩
    obtain ⟨cs2, t2, fz2, x⟩ := hm.tr.rel.obj _ _ hi
    have hblk2 := x.blk
    rw [hmb] at hblk2
    rw [hblk2] at hcs; cases hcs
    exact hblk cs t fz hblk2 x.one (by rw [hl]; exact x.len)
  · have hmb : (m i).1 = b := hm.nm _ hb
    rw [hmb]; exact hbase

theorem AtV.callG {ops : Array Oper} {Q : Exit → Go.Act → World → Prop} {i : Nat} {rest : List Nat} {N : Nat} {live live' : List Nat} {V : List Value} {H : AHeap} {nm : List (Nat × Nat)} {g : Gho} {a : Go.Act} {w : World} (h : AtV M O N live V H nm g a w) {o : Oper} {fx : Operand} {xs : Array Operand} {ts : Array TypeId}
    (ho : ops[i]? = some o) (hg : o.guard = none) (hop : o.op = .call ⟨.value fx, xs, ts⟩) {f : FuncId} (hf : ∀ z, aev (mkT N live V z) fx = some (.func (.func f) #[] #[])) (hen : Enters P f) {us : List Value} (hus : ∀ z, avals (aev (mkT N live V z)) xs.toList = some us)
    {L : List Nat} (hnd : nodupB L = true) {objs lo : List AObj} {largs : List Value} (hgat : gather H L = some objs) (hlo : renOs (idx L) objs = some lo) (hla : renL (idx L) us = some largs) {R : Value → Gho → Prop} (hgr : ∀ v g, R v g → ground v = true)
    (hc : ACallsG P M f largs lo fun v os' ns g => os' = lo ∧ ns = [] ∧ R v g) (hnm : nmOk nm H H = true) {V' : Value → List Value} (hl : ∀ z v, lookT (aput (mkT N live V z) o.dst v) live' = V' v)
    (hk : ∀ v g1 w', R v g1 → AtV M O N live' (V' v) H nm (fun b x => g b x ∨ g1 b x) (a.put o.dst v) w' → wpOps P ops Q rest (a.put o.dst v) w') : wpOps P ops Q (i :: rest) a w := by
  obtain ⟨z, h⟩ := h
  refine h.callG ho hg hop (hf z) hen (hus z) hnd hgat hlo hla hgr hc (fun v g1 w' hR _ _ h1 => hk v g1 w' hR ?_) hnm
  have h2 := AtV.of h1 live'
  have hN : (aput (mkT N live V z) o.dst v).length = N := by cases o.dst <;> simp [aput, mkT]
  simp only [hl z v, hN] at h2
  exact h2
end

theorem wpOps_enter {P : Program} {ops : Array Oper} {Q : Exit → Go.Act → World → Prop} {i : Nat} {rest : List Nat} {a : Go.Act} {w : World} {o : Oper} {f : FuncId} {args : Array Value} (ho : ops[i]? = some o) (hg : o.guard = none) (hrun : (execOp a.eval o).run P w = .ok (.enter f args) w)
    (hc : Calls P f args w fun e w' => ∃ v, e = .returned v ∧ wpOps P ops Q rest (a.put o.dst v) w') : wpOps P ops Q (i :: rest) a w := by
  have hw : Region.wanted o (yielded ops a.tmps) = true := by unfold Region.wanted; rw [hg]
  simp only [wpOps, ho, hw, if_true]
  refine .inl ?_
  simp only [Oper.wp, hrun, Oper.upon]
  refine hc.mono ?_
  rintro e w' ⟨v, rfl, h⟩
  exact h
end Go.Ab

namespace Go.Ab

def shpM (M : Mem) (b off : Nat) : List Shp → List Value
  | [] => []
  | s :: r => s.val ((M b off).getD undef) :: shpM M b (off + 1) r
def shpMB (M : Mem) (b off : Nat) : List Shp → Bool
  | [] => true
  | s :: r => ((M b off).isSome && s.is ((M b off).getD undef)) && shpMB M b (off + 1) r

theorem shpM_eq {M : Mem} {b : Nat} : ∀ {ss : List Shp} {off : Nat}, shpMB M b off ss = true → aload.roload M b off ss.length = some (shpM M b off ss) := by
  intro ss
  induction ss with
  | nil => intro off _; rfl
  | cons s r ih =>
    intro off h
    simp only [shpMB, Bool.and_eq_true] at h
    obtain ⟨v, hv⟩ := Option.isSome_iff_exists.1 h.1.1
    simp only [List.length_cons, aload.roload, hv, ih h.2, shpM, Option.getD_some]
    have := Shp.eq h.1.2
    rw [hv, Option.getD_some] at this
    rw [this]

/-- Struct types as objects' cells are loaded (sh) and as cells of memory that is only read are (shm). -/
def ovT (sh shm : Nat → Option (List Shp)) (P : Program) (M : Mem) : Ov := fun h ρ op => match op with
  | .fieldAddr t x i => match pv P ρ (.fieldAddr t x i) with
    | some u => some (uAct [] [] fun _ => (u, [], []), [])
    | none => none
  | .load t x => match shm t, ρ x with
    | some ss, some (.pointer (some ⟨b, off, none⟩)) => match szOf P t, aggT P t with
      | some m, some true => if Nat.beq m ss.length then some (uAct [] [] fun _ => (.agg ⟨shpM M b off ss⟩, [], []), [(shpMB M b off ss, true)]) else none
      | _, _ => none
    | _, _ => ovS sh P M h ρ (.load t x)
  | op => ovS sh P M h ρ op

theorem ovT_ok (sh shm : Nat → Option (List Shp)) (P : Program) (M : Mem) : OvOk P M (ovT sh shm P M) := by
  intro K cl h ρ op act p hov hp
  unfold ovT at hov
  split at hov
  · rename_i t x i
    split at hov
    · rename_i u hu
      cases hov
      exact ⟨pureAct u, by simp only [opAct, hu], uAct_same rfl rfl (gather_nil h) (gather_nil h) fun b => rfl⟩
    · cases hov
  · rename_i t x
    split at hov
    · rename_i ss b off hs hx
      split at hov
      · rename_i m hm ha
        split at hov
        · rename_i hl
          have hl := Nat.eq_of_beq_eq_true hl
          cases hov
          rw [held_one_iff] at hp
          refine ⟨loadAct P M t ⟨b, off, none⟩, by simp only [opAct, hx], uAct_same rfl rfl (gather_nil h) (gather_nil h) fun _ => ?_⟩
          have he := shpM_eq hp
          rw [← hl] at he
          simp only [loadAct, rval, ha, hm, he]
        · cases hov
      · cases hov
    · exact ovS_ok sh P M K cl h ρ _ act p hov hp
  · exact ovS_ok sh P M K cl h ρ _ act p hov hp
end Go.Ab

namespace Go.Ab

def ldBo (o : AObj) (sz off : Nat) : Bool := decide (o.cells.length = sz) && isB (atC o.cells off)
theorem isB_eq' {v : Value} (h : isB v = true) : v = .bool (vbool v) := by
  cases v <;> simp [isB] at h
  rfl
theorem atC_bool {l : List Value} {i : Nat} (h : isB (atC l i) = true) : l[i]? = some (.bool (vbool (atC l i))) := by
  have e := isB_eq' h
  cases hl : l[i]? with
  | none => unfold atC at h; rw [hl] at h; cases h
  | some v =>
    have : atC l i = v := by unfold atC; rw [hl]; rfl
    rw [this] at e ⊢
    exact congrArg some e

def ovB (sh : Nat → Option (List Shp)) (P : Program) (M : Mem) : Ov := fun h ρ op => match op with
  | .load t x => match P.underlying t, ρ x with
    | some .bool, some (.pointer (some ⟨b, off, some sz⟩)) => match hget h b with
      | some o => some (uAct [b] [] fun _ => (.bool (vbool (atC o.cells off)), [], []), [(ldBo o sz off, true)])
      | none => none
    | _, _ => ovS sh P M h ρ (.load t x)
  | op => ovS sh P M h ρ op

theorem ovB_ok (sh : Nat → Option (List Shp)) (P : Program) (M : Mem) : OvOk P M (ovB sh P M) := by
  intro K cl h ρ op act p hov hp
  unfold ovB at hov
  split at hov
  · rename_i t x
    split at hov
    · rename_i b off sz hu hx
      split at hov
      · rename_i o ho
        cases hov
        rw [held_one_iff] at hp
        simp only [ldBo, Bool.and_eq_true, decide_eq_true_eq] at hp
        refine ⟨loadAct P M t ⟨b, off, some sz⟩, by simp only [opAct, hx], uAct_same rfl rfl (gather_one' ho) (gather_nil h) fun _ => ?_⟩
        simp only [loadAct, oval, hp.1, if_true, aggT, hu, Option.map_some, atC_bool hp.2]
      · cases hov
    · exact ovS_ok sh P M K cl h ρ _ act p hov hp
  · exact ovS_ok sh P M K cl h ρ _ act p hov hp
end Go.Ab

namespace Go.Ab

theorem HRel.less {M M' : Mem} {m : Pl} {h : AHeap} {w : World} (hM : ∀ b off v, M b off = some v → M' b off = some v) (hB : M'.big = M.big) (r : HRel M' m h w) : HRel M m h w :=
  ⟨r.inj, r.obj, fun b off v hv => r.ro b off v (hM b off v hv), fun b x hx => r.big b x (by rw [hB]; exact hx)⟩
theorem Tr.less {M M' : Mem} {m m' : Pl} {h h' : AHeap} {w w' : World} (hM : ∀ b off v, M b off = some v → M' b off = some v) (hB : M'.big = M.big) (t : Tr M' m h w m' h' w') : Tr M m h w m' h' w' :=
  ⟨t.rel.less hM hB, t.ext, t.os, t.tape, t.output, t.size, t.frame, t.own⟩

/-- A memory, and known cells. -/
structure Seen (M M' : Mem) (g : Gho) : Prop where
  le : ∀ b off v, M b off = some v → M' b off = some v
  big : M'.big = M.big
  of : ∀ b off v, M' b off = some v → M b off = some v ∨ ∃ l, g b (.cells l) ∧ l[off]? = some v

theorem At.window {M M' : Mem} {O : Org} {s : ASt} {nm : List (Nat × Nat)} {g : Gho} {a : Go.Act} {w : World} (hM : Seen M M' g) (h : At M O s nm g a w) :
    ∃ O', O'.h = s.heap ∧ O'.w = w ∧ At M' O' s [] (fun _ _ => False) a w ∧ ∀ s1 nm1 g1 a1 w1, At M' O' s1 nm1 g1 a1 w1 → At M O s1 nm1 (fun b x => g b x ∨ g1 b x) a1 w1 := by
  obtain ⟨m, h⟩ := h
  have hrel : HRel M' m s.heap w := ⟨h.tr.rel.inj, h.tr.rel.obj, fun b off v hv => by
    rcases hM.of b off v hv with h1 | ⟨l, hl, hv⟩
    · exact h.tr.rel.ro b off v h1
    · obtain ⟨h1, _, h3⟩ := h.g b _ hl
      obtain ⟨hg, cs, t, fz, e1, _, _, e4, e5⟩ := h1
      refine ⟨by simp only [World.cell?, e1]; exact e5 off v hv, groundL_get hg hv, e4 off v (e5 off v hv), h3⟩, fun b x hx => h.tr.rel.big b x (by rw [← hM.big]; exact hx)⟩
  refine ⟨⟨m, s.heap, w⟩, rfl, rfl, ⟨m, hrel, .refl hrel, h.t, h.d, fun p hp => absurd hp (by simp), fun b x hx => False.elim hx⟩, ?_⟩
  rintro s1 nm1 g1 a1 w1 ⟨m1, h1⟩
  refine ⟨m1, h.r0, h.tr.trans (h1.tr.less hM.le hM.big), h1.t, h1.d, h1.nm, fun b x hx => ?_⟩
  rcases hx with hx | hx
  · obtain ⟨q1, q2, q3⟩ := h.g b x hx
    have hlt := h.lt hx
    refine ⟨by rw [h1.tr.frame b hlt q3]; exact q1, q2, fun i o hi e => ?_⟩
    rcases h1.tr.own i o hi with h4 | ⟨j, oj, hj, h4⟩
    · have : w.heap.size ≤ (m1 i).1 := h4
      omega
    · exact q3 j oj hj (by rw [← h4]; exact e)
  · obtain ⟨q1, q2, q3⟩ := h1.g b x hx
    exact ⟨q1, Nat.le_trans h.tr.size q2, q3⟩

theorem AtV.window {M M' : Mem} {O : Org} {N : Nat} {live : List Nat} {V : List Value} {H : AHeap} {nm : List (Nat × Nat)} {g : Gho} {a : Go.Act} {w : World} (hM : Seen M M' g) (h : AtV M O N live V H nm g a w) :
    ∃ O', O'.h = H ∧ O'.w = w ∧ AtV M' O' N live V H [] (fun _ _ => False) a w ∧ ∀ N1 live1 V1 H1 nm1 g1 a1 w1, AtV M' O' N1 live1 V1 H1 nm1 g1 a1 w1 → AtV M O N1 live1 V1 H1 nm1 (fun b x => g b x ∨ g1 b x) a1 w1 := by
  obtain ⟨z, h⟩ := h
  obtain ⟨O', h1, h2, h3, h4⟩ := h.window hM
  exact ⟨O', h1, h2, ⟨z, h3⟩, fun N1 live1 V1 H1 nm1 g1 a1 w1 ⟨z1, h5⟩ => ⟨z1, h4 _ _ _ _ _ h5⟩⟩
end Go.Ab

namespace Go.Ab

/-- These cells lie there. -/
def RowAt (M : Mem) (b off : Nat) (vs : List Value) : Prop := ∀ j, j < vs.length → M b (off + j) = vs[j]?
theorem RowAt.load {M : Mem} {b : Nat} : ∀ {vs : List Value} {off : Nat}, RowAt M b off vs → aload.roload M b off vs.length = some vs := by
  intro vs
  induction vs with
  | nil => intro off _; rfl
  | cons v vs ih =>
    intro off h
    have h0 := h 0 (by simp)
    have h1 : RowAt M b (off + 1) vs := fun j hj => by
      have := h (j + 1) (by simpa using hj)
      rw [show off + 1 + j = off + (j + 1) by omega]
      simpa using this
    simp only [Nat.add_zero, List.getElem?_cons_zero] at h0
    simp only [List.length_cons, aload.roload, h0, ih h1]

noncomputable def rowB (M : Mem) (b off : Nat) (vs : List Value) : Bool := @decide (RowAt M b off vs) (Classical.propDecidable _)
theorem rowB_iff {M : Mem} {b off : Nat} {vs : List Value} : rowB M b off vs = true ↔ RowAt M b off vs := by
  unfold rowB
  exact @decide_eq_true_iff _ (Classical.propDecidable _)

noncomputable def ovG (t0 : TypeId) (vs : List Value) (sh : Nat → Option (List Shp)) (P : Program) (M : Mem) : Ov := fun h ρ op => match op with
  | .fieldAddr t x i => match pv P ρ (.fieldAddr t x i) with
    | some u => some (uAct [] [] fun _ => (u, [], []), [])
    | none => none
  | .load t x => if Nat.beq t t0 then match ρ x with
      | some (.pointer (some ⟨b, off, none⟩)) => match szOf P t, aggT P t with
        | some m, some true => if Nat.beq m vs.length then some (uAct [] [] fun _ => (.agg ⟨vs⟩, [], []), [(rowB M b off vs, true)]) else none
        | _, _ => none
      | _ => none
    else ovB sh P M h ρ (.load t x)
  | op => ovB sh P M h ρ op

theorem ovG_ok (t0 : TypeId) (vs : List Value) (sh : Nat → Option (List Shp)) (P : Program) (M : Mem) : OvOk P M (ovG t0 vs sh P M) := by
  intro K cl h ρ op act p hov hp
  unfold ovG at hov
  split at hov
  · rename_i t x i
    split at hov
    · rename_i u hu
      cases hov
      exact ⟨pureAct u, by simp only [opAct, hu], uAct_same rfl rfl (gather_nil h) (gather_nil h) fun b => rfl⟩
    · cases hov
  · rename_i t x
    split at hov
    · split at hov
      · rename_i b off hx
        split at hov
        · rename_i m hm ha
          split at hov
          · rename_i hl
            have hl := Nat.eq_of_beq_eq_true hl
            cases hov
            rw [held_one_iff, rowB_iff] at hp
            refine ⟨loadAct P M t ⟨b, off, none⟩, by simp only [opAct, hx], uAct_same rfl rfl (gather_nil h) (gather_nil h) fun _ => ?_⟩
            have he := hp.load
            rw [← hl] at he
            simp only [loadAct, rval, ha, hm, he]
          · cases hov
        · cases hov
      · cases hov
    · exact ovB_ok sh P M K cl h ρ _ act p hov hp
  · exact ovB_ok sh P M K cl h ρ _ act p hov hp
end Go.Ab

namespace Go.Ab
section
variable {P : Program} {M : Mem} {O : Org}

theorem At.regard {s : ASt} {nm : List (Nat × Nat)} {g : Gho} {a : Go.Act} {w : World} (h : At M O s nm g a w) {t : Nat} {u : Value} (ht : a.tmps[t]? = some u) (hg : ground u = true) : At M O ⟨s.tmps.set t u, s.heap⟩ nm g a w := by
  obtain ⟨m, h⟩ := h
  refine ⟨m, h.r0, h.tr, ⟨by simpa using h.t.1, fun i x y hx hy => ?_⟩, h.d, h.nm, h.g⟩
  by_cases e : t = i
  · subst e
    rw [List.getElem?_set_self' ] at hx
    have hy' : y = u := by
      rw [Array.getElem?_toList] at hy
      rw [ht] at hy
      exact (Option.some.inj hy).symm
    subst hy'
    have hx' : x = y := by
      cases hs : s.tmps[t]? with
      | none => rw [hs] at hx; cases hx
      | some v => rw [hs] at hx; exact (Option.some.inj hx).symm
    subst hx'
    exact .same hg
  · rw [List.getElem?_set_ne e] at hx
    exact h.t.2 i x y hx hy
end
end Go.Ab

namespace Go.Ab

/-- A value that names object 0 (of sz cells) in slices from its head on, or not at all. -/
def Shut1 (sz b : Nat) (u v : Value) : Prop := (ground u = true ∧ v = u) ∨ ∃ n c c', u = .slice (some ⟨0, 0, some sz⟩) n c ∧ 0 < c ∧ c ≤ c' ∧ v = .slice (some ⟨b, 0, none⟩) n c'
def ShutL (sz b : Nat) : List Value → List Value → Prop
  | [], [] => True
  | u :: us, v :: vs => Shut1 sz b u v ∧ ShutL sz b us vs
  | _, _ => False
/-- Such values. -/
def shut1 (sz : Nat) : Value → Prop
  | .slice (some ⟨i, off, some s⟩) _ c => i = 0 ∧ off = 0 ∧ s = sz ∧ 0 < c
  | u => ground u = true

theorem Shut1.ground {sz b : Nat} {u v : Value} (h : Shut1 sz b u v) : ground v = true := by
  rcases h with ⟨h, rfl⟩ | ⟨n, c, c', _, _, _, rfl⟩
  · exact h
  · rfl
theorem ShutL.ground {sz b : Nat} : ∀ {us vs : List Value}, ShutL sz b us vs → groundL vs = true := by
  intro us
  induction us with
  | nil => intro vs h; cases vs with
    | nil => rfl
    | cons v vs => exact False.elim h
  | cons u us ih => intro vs h; cases vs with
    | nil => exact False.elim h
    | cons v vs => simp only [groundL, h.1.ground, ih h.2, Bool.and_self]

theorem VRel.shut1 {m : Pl} {h : AHeap} {o : AObj} (h0 : hget h 0 = some o) {u v : Value} (hr : VRel m h u v) (hs : shut1 o.cells.length u) : Shut1 o.cells.length (m 0).1 u v := by
  cases hr with
  | same hg => exact .inl ⟨hg, rfl⟩
  | ptr ho hle hv => exact absurd (show ground _ = true from hs) (by simp [ground])
  | slc ho hle hc hv =>
    obtain ⟨rfl, rfl, rfl, hcp⟩ := hs
    rw [h0] at ho; cases ho
    obtain ⟨h1, _⟩ := hv rfl
    exact .inr ⟨_, _, _, rfl, hcp, hc.2, by rw [h1 (by omega)]⟩
  | func hx hpx hy hpy => exact .inl ⟨hs, ((VRel.func hx hpx hy hpy).eq hs)⟩
  | iface hu => exact .inl ⟨hs, ((VRel.iface hu).eq hs)⟩
  | agg hx hpx => exact .inl ⟨hs, ((VRel.agg hx hpx).eq hs)⟩
  | tuple hx hpx => exact .inl ⟨hs, ((VRel.tuple hx hpx).eq hs)⟩

theorem shutL_of {sz b : Nat} : ∀ {us vs : List Value}, us.length = vs.length → (∀ (i : Nat) u v, us[i]? = some u → vs[i]? = some v → Shut1 sz b u v) → ShutL sz b us vs := by
  intro us
  induction us with
  | nil => intro vs hl h; cases vs with
    | nil => trivial
    | cons v vs => cases hl
  | cons u us ih => intro vs hl h; cases vs with
    | nil => cases hl
    | cons v vs => exact ⟨h 0 u v rfl rfl, ih (by simpa using hl) fun i u v hu hv => h (i + 1) u v (by simpa using hu) (by simpa using hv)⟩

section
variable {P : Program} {M : Mem}

theorem ACallsG.shutBy {f : FuncId} {args : List Value} {R : Value → List AObj → List AObj → Gho → Prop} {S : Nat → List Value → Value → Value → Prop} (h : ACallsG P M f args [] R)
    (hR : ∀ v os' ns g, R v os' ns g → ∃ l gr e, ns = [⟨l, gr, e, true⟩] ∧ ∀ (m : Pl) v', VRel m [some ⟨l, gr, e, true⟩] v v' → S (m 0).1 l v v' ∧ ground v' = true) :
    ACallsG P M f args [] fun v os' ns g => os' = [] ∧ ns = [] ∧ ∃ u o1 l gr e g0 B, R u o1 [⟨l, gr, e, true⟩] g0 ∧ S B l u v ∧ ground v = true ∧ groundL l = true ∧ (∀ b x, g0 b x → b ≠ B) ∧ g = fun b x => g0 b x ∨ (b = B ∧ x = .cells l) := by
  intro m w args' r hargs
  refine (h m w args' r hargs).mono ?_
  rintro e w' ⟨v, os', ns, g, v', m', hRv, hlen, rfl, htr, hvr, hgh⟩
  obtain ⟨l, gr, es, rfl, hS⟩ := hR _ _ _ _ hRv
  have h0 : os' = [] := List.length_eq_zero_iff.1 hlen
  subst h0
  simp only [List.nil_append, List.map_cons, List.map_nil] at htr hvr hgh
  obtain ⟨hS, hgv⟩ := hS m' v' hvr
  have hk : hget [some (⟨l, gr, es, true⟩ : AObj)] 0 = some ⟨l, gr, es, true⟩ := rfl
  have none' : ∀ i o, hget ([] : AHeap) i = some o → False := fun i o hi => by simp [hget] at hi
  obtain ⟨cs, t, fz, x⟩ := htr.rel.obj 0 _ hk
  have hg := x.flat rfl
  refine ⟨v', [], [], fun b x => g b x ∨ (b = (m' 0).1 ∧ x = .cells l), v', m', ⟨rfl, rfl, v, [], l, gr, es, g, (m' 0).1, hRv, hS, hgv, hg, fun b x hx he => (hgh b x hx).2.2 0 _ hk he.symm, rfl⟩, rfl, rfl, ?_, .same hgv, fun b y hy => ?_⟩
  · refine ⟨⟨fun i j oi oj hi => (none' i oi hi).elim, fun i o hi => (none' i o hi).elim, fun b off v hv => ?_, fun b x hx => ⟨(htr.rel.big b x hx).1, fun i o hi => (none' i o hi).elim⟩⟩, fun i o hi => (none' i o hi).elim, htr.os, htr.tape, htr.output, htr.size, htr.frame, fun i o hi => (none' i o hi).elim⟩
    obtain ⟨h1, h2, h3, h4⟩ := htr.rel.ro b off v hv
    exact ⟨h1, h2, h3, fun i o hi => (none' i o hi).elim⟩
  · rcases hy with hy | ⟨rfl, rfl⟩
    · obtain ⟨h1, h2, h3⟩ := hgh b y hy
      exact ⟨h1, h2, fun i o hi => (none' i o hi).elim⟩
    · refine ⟨⟨hg, cs, t, fz, x.blk, x.len, x.free, x.one, fun j u hu => ?_⟩, ?_, fun i o hi => (none' i o hi).elim⟩
      · have hj : j < cs.size := Nat.lt_of_lt_of_le (List.getElem?_eq_some_iff.1 hu).1 x.len
        have := (x.rel j u cs[j] hu (Array.getElem?_eq_getElem hj)).eq (groundL_get hg hu)
        rw [Array.getElem?_eq_getElem hj, this]
      · rcases htr.own 0 _ hk with h1 | ⟨j, oj, hj, _⟩
        · exact h1
        · exact (none' j oj hj).elim

/-- A slice of the object. -/
theorem ACallsG.shutS {f : FuncId} {args : List Value} {R : List Value → Gho → Prop} {n c : Nat} {gr : Bool} {es : Nat} {L : Nat} (hc : 0 < c)
    (h : ACallsG P M f args [] fun v os' ns g => ∃ l, l.length = L ∧ v = .slice (some ⟨0, 0, some L⟩) n c ∧ ns = [⟨l, gr, es, true⟩] ∧ R l g) :
    ACallsG P M f args [] fun v os' ns g => os' = [] ∧ ns = [] ∧ ∃ l B c' g0, l.length = L ∧ R l g0 ∧ c ≤ c' ∧ v = .slice (some ⟨B, 0, none⟩) n c' ∧ groundL l = true ∧ (∀ b x, g0 b x → b ≠ B) ∧ g = fun b x => g0 b x ∨ (b = B ∧ x = .cells l) := by
  have h1 := h.shutBy (S := fun B l u v => Shut1 l.length B u v) fun v os' ns g hv => by
    obtain ⟨l, hl, rfl, rfl, _⟩ := hv
    refine ⟨l, gr, es, rfl, fun m v' hr => ?_⟩
    have := hr.shut1 (o := ⟨l, gr, es, true⟩) rfl ⟨rfl, rfl, hl.symm, hc⟩
    exact ⟨this, this.ground⟩
  intro m w args' r hargs
  refine (h1 m w args' r hargs).mono ?_
  rintro e w' ⟨v, os', ns, g, v', m', ⟨rfl, rfl, u, o1, l, gr1, es1, g0, B, ⟨l1, hl1, rfl, hns, hR⟩, hS, _, hgl, hap, rfl⟩, rest⟩
  cases hns
  rcases hS with ⟨hS, _⟩ | ⟨n1, c1, c', hu, _, hcc, rfl⟩
  · simp [ground] at hS
  · cases hu
    exact ⟨_, _, _, _, v', m', ⟨rfl, rfl, l, B, c', g0, hl1, hR, hcc, rfl, hgl, hap, rfl⟩, rest⟩

/-- A struct that has the object's slice among its cells. -/
theorem ACallsG.shutA {f : FuncId} {args : List Value} {R : List Value → Gho → Prop} {us : List Value} {gr : Bool} {es : Nat} {L : Nat} (hs : ∀ u ∈ us, shut1 L u)
    (h : ACallsG P M f args [] fun v os' ns g => ∃ l, l.length = L ∧ v = .agg ⟨us⟩ ∧ ns = [⟨l, gr, es, true⟩] ∧ R l g) :
    ACallsG P M f args [] fun v os' ns g => os' = [] ∧ ns = [] ∧ ∃ l B vs g0, l.length = L ∧ R l g0 ∧ v = .agg ⟨vs⟩ ∧ ShutL L B us vs ∧ groundL l = true ∧ g = fun b x => g0 b x ∨ (b = B ∧ x = .cells l) := by
  have h1 := h.shutBy (S := fun B l u v => ∃ vs, v = .agg ⟨vs⟩ ∧ ShutL L B us vs) fun v os' ns g hv => by
    obtain ⟨l, hl, rfl, rfl, _⟩ := hv
    refine ⟨l, gr, es, rfl, fun m v' hr => ?_⟩
    cases hr with
    | same hg =>
      have hgl : groundL us = true := hg
      exact ⟨⟨us, rfl, shutL_of rfl fun i u v hu hv => by rw [hu] at hv; cases hv; exact .inl ⟨groundL_get hgl hu, rfl⟩⟩, hg⟩
    | agg hx hpx =>
      rename_i x'
      have : ShutL L (m 0).1 us x'.toList := shutL_of (by simpa using hx) fun i u v hu hv => by
        have := (hpx i u v (by simpa using hu) (by simpa using hv)).shut1 (o := ⟨l, gr, es, true⟩) rfl (by simp only [hl]; exact hs u (List.mem_of_getElem? hu))
        simpa only [hl] using this
      exact ⟨⟨x'.toList, rfl, this⟩, by show groundA x' = true; cases x'; exact this.ground⟩
  intro m w args' r hargs
  refine (h1 m w args' r hargs).mono ?_
  rintro e w' ⟨v, os', ns, g, v', m', ⟨rfl, rfl, u, o1, l, gr1, es1, g0, B, ⟨l1, hl1, rfl, hns, hR⟩, ⟨vs, rfl, hS⟩, _, hgl, _, rfl⟩, rest⟩
  cases hns
  exact ⟨_, _, _, _, v', m', ⟨rfl, rfl, l, B, vs, g0, hl1, hR, rfl, hS, hgl, rfl⟩, rest⟩

/-- A contract, as one with no known cells. -/
theorem ACalls.toG {f : FuncId} {args : List Value} {os : List AObj} {v : Value} {os' ns : List AObj} (h : ACalls P M f args os v os' ns) : ACallsG P M f args os fun v1 o1 n1 g => v1 = v ∧ o1 = os' ∧ n1 = ns ∧ g = fun _ _ => False := by
  obtain ⟨hl, h⟩ := h
  intro m w args' r hargs
  refine (h m w args' r hargs).mono ?_
  rintro e w' ⟨v', m', he, htr, hvr⟩
  exact ⟨v, os', ns, fun _ _ => False, v', m', ⟨rfl, rfl, rfl, rfl⟩, hl, he, htr, hvr, fun b x hx => hx.elim⟩

theorem ACallsG.mono {f : FuncId} {args : List Value} {os : List AObj} {R R' : Value → List AObj → List AObj → Gho → Prop} (h : ACallsG P M f args os R) (hR : ∀ v o n g, R v o n g → R' v o n g) : ACallsG P M f args os R' := by
  intro m w args' r hargs
  refine (h m w args' r hargs).mono ?_
  rintro e w' ⟨v, os', ns, g, v', m', h1, rest⟩
  exact ⟨v, os', ns, g, v', m', hR _ _ _ _ h1, rest⟩
end
end Go.Ab

namespace Go.Ab

open Classical in
noncomputable def seenM (M : Mem) (g : Gho) : Mem := ⟨fun b off => match M b off with
  | some v => some v
  | none => if h : ∃ v l, g b (.cells l) ∧ l[off]? = some v then some h.choose else none, M.big⟩

theorem seenM_le {M : Mem} {g : Gho} {b off : Nat} {v : Value} (h : M b off = some v) : seenM M g b off = some v := by
  simp only [seenM]
  rw [h]
theorem seenM_seen (M : Mem) (g : Gho) : Seen M (seenM M g) g := by
  refine ⟨fun b off v h => seenM_le h, rfl, fun b off v h => ?_⟩
  simp only [seenM] at h
  split at h
  · rename_i v' hv; cases h; exact .inl hv
  · split at h
    · rename_i hex
      cases h
      obtain ⟨l, h1, h2⟩ := hex.choose_spec
      exact .inr ⟨l, h1, h2⟩
    · cases h

section
variable {P : Program} {M : Mem} {O : Org}
theorem AtM.seen {s : ASt} {nm : List (Nat × Nat)} {g : Gho} {a : Go.Act} {w : World} {m : Pl} (h : AtM M O s nm g a w m) {b off : Nat} {l : List Value} {v : Value} (hg : g b (.cells l)) (hv : l[off]? = some v) : seenM M g b off = some v := by
  obtain ⟨h1, hb, _⟩ := h.g b _ hg
  have hM : M b off = none := by
    cases hm : M b off with
    | none => rfl
    | some u => have := h.r0.ro_lt hm; omega
  have hex : ∃ v l, g b (.cells l) ∧ l[off]? = some v := ⟨v, l, hg, hv⟩
  simp only [seenM]
  rw [hM]
  simp only
  rw [dif_pos hex]
  obtain ⟨l', h2, h3⟩ := hex.choose_spec
  obtain ⟨_, cs, t, fz, e1, _, _, _, e2⟩ := h1
  obtain ⟨h4, _, _⟩ := h.g b _ h2
  obtain ⟨_, cs', t', fz', e3, _, _, _, e4⟩ := h4
  rw [e1] at e3; cases e3
  have := e2 off v hv
  rw [e4 off _ h3] at this
  exact congrArg some (Option.some.inj this)
theorem AtV.seen {N : Nat} {live : List Nat} {V : List Value} {H : AHeap} {nm : List (Nat × Nat)} {g : Gho} {a : Go.Act} {w : World} (h : AtV M O N live V H nm g a w) {b off : Nat} {l : List Value} {v : Value} (hg : g b (.cells l)) (hv : l[off]? = some v) : seenM M g b off = some v := by
  obtain ⟨z, m, h⟩ := h
  exact h.seen hg hv
/-- As callG; what the callee leaves is fresh. -/
theorem AtV.callGf {ops : Array Oper} {Q : Exit → Go.Act → World → Prop} {i : Nat} {rest : List Nat} {N : Nat} {live live' : List Nat} {V : List Value} {H : AHeap} {nm : List (Nat × Nat)} {g : Gho} {a : Go.Act} {w : World} (h : AtV M O N live V H nm g a w) {o : Oper} {fx : Operand} {xs : Array Operand} {ts : Array TypeId}
    (ho : ops[i]? = some o) (hg : o.guard = none) (hop : o.op = .call ⟨.value fx, xs, ts⟩) {f : FuncId} (hf : ∀ z, aev (mkT N live V z) fx = some (.func (.func f) #[] #[])) (hen : Enters P f) {us : List Value} (hus : ∀ z, avals (aev (mkT N live V z)) xs.toList = some us)
    {L : List Nat} (hnd : nodupB L = true) {objs lo : List AObj} {largs : List Value} (hgat : gather H L = some objs) (hlo : renOs (idx L) objs = some lo) (hla : renL (idx L) us = some largs) {R : Value → Gho → Prop} (hgr : ∀ v g, R v g → ground v = true)
    (hc : ACallsG P M f largs lo fun v os' ns g => os' = lo ∧ ns = [] ∧ R v g) (hnm : nmOk nm H H = true) {V' : Value → List Value} (hl : ∀ z v, lookT (aput (mkT N live V z) o.dst v) live' = V' v)
    (hk : ∀ v g1 w', R v g1 → (∀ b x, g1 b x → w.heap.size ≤ b) → AtV M O N live' (V' v) H nm (fun b x => g b x ∨ g1 b x) (a.put o.dst v) w' → wpOps P ops Q rest (a.put o.dst v) w') : wpOps P ops Q (i :: rest) a w := by
  obtain ⟨z, h⟩ := h
  refine h.callG ho hg hop (hf z) hen (hus z) hnd hgat hlo hla hgr hc (fun v g1 w' hR _ hfr h1 => hk v g1 w' hR hfr ?_) hnm
  have h2 := AtV.of h1 live'
  have hN : (aput (mkT N live V z) o.dst v).length = N := by cases o.dst <;> simp [aput, mkT]
  simp only [hl z v, hN] at h2
  exact h2
theorem AtV.lt {N : Nat} {live : List Nat} {V : List Value} {H : AHeap} {nm : List (Nat × Nat)} {g : Gho} {a : Go.Act} {w : World} (h : AtV M O N live V H nm g a w) {b : Nat} {x : GO} (hb : g b x) : b < w.heap.size := by
  obtain ⟨z, m, h⟩ := h
  exact h.lt hb
end
end Go.Ab

namespace Go.Ab

def byteAt (s : ByteArray) (i : Nat) : Int := ((s.data.toList.getD i 0).toNat : Int)
theorem byteAt_get {s : ByteArray} {i : Nat} (h : i < s.size) : s.data.toList[i]? = some (s.data.toList.getD i 0) := by
  have h' : i < s.data.toList.length := by simpa using h
  rw [List.getD_eq_getElem?_getD, List.getElem?_eq_getElem h']; rfl

theorem str_app (a b : ByteArray) : a ++ b = ⟨(a.data.toList ++ b.data.toList).toArray⟩ := by
  apply ByteArray.ext
  rw [ByteArray.data_append]
  apply Array.ext'
  simp
theorem bo_add {P : Program} {t : TypeId} {x y : Operand} {a b : ByteArray} (h : a.data.toList.length + b.data.toList.length ≤ 9223372036854775807) : bo P .add t x y (.string a) (.string b) = some (.string ⟨(a.data.toList ++ b.data.toList).toArray⟩) := by
  have h1 : ¬ (((a.size + b.size : Nat) : Int) > IntKind.i64.max) := by
    have e1 : a.size = a.data.toList.length := Array.length_toList.symm
    have e2 : b.size = b.data.toList.length := Array.length_toList.symm
    have e3 : IntKind.i64.max = 9223372036854775807 := rfl
    rw [e1, e2, e3]; omega
  rw [← str_app]
  show gr (peval P (if ((a.size + b.size : Nat) : Int) > IntKind.i64.max then Go.unsupported (.resourceLimit "string concatenation: a sum of the lengths that is no int") else pure (.string (a ++ b)))) = _
  rw [if_neg h1]
  rfl

noncomputable def ovI (t0 : TypeId) (vs : List Value) (sh : Nat → Option (List Shp)) (P : Program) (M : Mem) : Ov := fun h ρ op => match op with
  | .index t x i => match P.underlying t, ρ x, ρ i with
    | some .string, some (.string s), some (.int _ k) => some (uAct [] [] fun _ => (.int .u8 (byteAt s k.toNat), [], []), [(inB k s.size, true)])
    | _, _, _ => none
  | .call ⟨.builtin .append, ⟨[x, y]⟩, ⟨[t1, t2]⟩⟩ => match ρ x with
    | some (.slice none 0 0) => match P.underlying t1, P.underlying t2, ρ y with
      | some (.slice e), some d2, some (.string s) => match szOf P e, bytesT P e, flatT P e, zeroOf P e with
        | some 1, some by_, some true, some z => if srcT d2 && Nat.blt 0 by_ && Nat.beq z.length 1 && okL true z then
            some (uAct [] [] fun b => (slcTo s.size s.size (s.size * 1) b, [], [⟨strCells s s.size, true, 1, true⟩]), [(!Nat.beq s.size 0 && room s.size by_, true)]) else none
        | _, _, _, _ => none
      | _, _, _ => none
    | _ => ovX P M h ρ (.call ⟨.builtin .append, ⟨[x, y]⟩, ⟨[t1, t2]⟩⟩)
  | .binOp .add t x y u => match ρ x, ρ y with
    | some (.string a), some (.string b) => some (uAct [] [] fun _ => (.string ⟨(a.data.toList ++ b.data.toList).toArray⟩, [], []), [(decide (a.data.toList.length + b.data.toList.length ≤ 9223372036854775807), true)])
    | _, _ => ovG t0 vs sh P M h ρ (.binOp .add t x y u)
  | op => ovG t0 vs sh P M h ρ op

theorem ovI_ok (t0 : TypeId) (vs : List Value) (sh : Nat → Option (List Shp)) (P : Program) (M : Mem) : OvOk P M (ovI t0 vs sh P M) := by
  intro K cl h ρ op act p hov hp
  unfold ovI at hov
  split at hov
  · rename_i t x i
    split at hov
    · rename_i s kk k hu hx hi
      cases hov
      rw [held_one_iff, inB_iff] at hp
      have hk : k.toNat < s.size := by omega
      exact ⟨pureAct _, by simp only [opAct, pv, hu, hx, hi, hp.1, if_true, byteAt_get hk]; rfl, uAct_same rfl rfl (gather_nil h) (gather_nil h) fun b => rfl⟩
    · cases hov
  · rename_i x y t1 t2
    split at hov
    · rename_i hx
      split at hov
      · rename_i e d2 s hu1 hu2 hy
        split at hov
        · rename_i by_ z hk hby hfl hz
          split at hov
          · rename_i hc
            simp only [Bool.and_eq_true] at hc
            obtain ⟨⟨⟨c1, c3⟩, c4⟩, c5⟩ := hc
            have c3 := Nat.blt_eq.mp c3
            have c4 := Nat.eq_of_beq_eq_true c4
            cases hov
            rw [held_one_iff] at hp
            simp only [Bool.and_eq_true, Bool.not_eq_true'] at hp
            have hne : ¬ s.size = 0 := fun e => by rw [e] at hp; exact absurd hp.1 (by simp)
            refine ⟨_, by simp only [opAct, hx, hy, appendAct, hu1, hu2, hk, hby, hfl, hz, srcN, c1, c3, c4, c5, Nat.lt_add_one, and_self, if_true, hne, if_false, hp.2]; rfl, uAct_same rfl rfl (gather_nil h) (gather_nil h) fun b => ?_⟩
            simp only [srcCells, Nat.le_refl, and_self, if_true, okC, Bool.true_or]
          · cases hov
        · cases hov
      · cases hov
    · exact ovX_ok P M K cl h ρ _ act p hov hp
  · rename_i t x y u
    split at hov
    · rename_i a b hx hy
      cases hov
      rw [held_one_iff, decide_eq_true_eq] at hp
      refine ⟨pureAct (.string ⟨(a.data.toList ++ b.data.toList).toArray⟩), ?_, uAct_same rfl rfl (gather_nil h) (gather_nil h) fun b => rfl⟩
      simp only [opAct, pv, hx, hy, ground, Bool.and_self, if_true, bo_add hp]
    · exact ovG_ok t0 vs sh P M K cl h ρ _ act p hov hp
  · exact ovG_ok t0 vs sh P M K cl h ρ _ act p hov hp
end Go.Ab

namespace Go.Ab

/-- A world of a run: what is known of blocks. -/
structure StG (M : Mem) (O : Org) (g : Gho) (w : World) : Prop where
  r0 : HRel M O.m O.h O.w
  tr : ∃ m, Tr M O.m O.h O.w m [] w
  g : ∀ b x, g b x → x.ok (w.heap[b]?) ∧ O.w.heap.size ≤ b

section
variable {P : Program} {M : Mem} {O : Org}
theorem hget_none (i : Nat) (o : AObj) : ¬ hget ([] : AHeap) i = some o := by simp [hget]

theorem At.forget (hO : O.h = []) {s : ASt} {nm : List (Nat × Nat)} {g : Gho} {a : Go.Act} {w : World} (h : At M O s nm g a w) : StG M O g w := by
  obtain ⟨m, h⟩ := h
  refine ⟨h.r0, ⟨m, ⟨⟨fun i j oi oj hi => absurd hi (hget_none i oi), fun i o hi => absurd hi (hget_none i o), fun b off v hv => ?_, fun b x hx => ?_⟩, ?_, h.tr.os, h.tr.tape, h.tr.output, h.tr.size, h.tr.frame, fun i o hi => absurd hi (hget_none i o)⟩⟩, fun b x hx => ⟨(h.g b x hx).1, (h.g b x hx).2.1⟩⟩
  · obtain ⟨h1, h2, h3, _⟩ := h.tr.rel.ro b off v hv
    exact ⟨h1, h2, h3, fun i o hi => absurd hi (hget_none i o)⟩
  · exact ⟨(h.tr.rel.big b x hx).1, fun i o hi => absurd hi (hget_none i o)⟩
  · rw [hO]; exact fun i o hi => absurd hi (hget_none i o)

/-- How such a callee's run begins. -/
theorem StG.at {g : Gho} {w : World} (h : StG M O g w) {args : List Value} (hargs : groundL args = true) (n : Nat) :
    At M O ⟨args ++ List.replicate (n - args.length) undef, []⟩ [] g { tmps := args.toArray ++ Array.replicate (n - args.toArray.size) undef, defers := [] } w := by
  obtain ⟨m, tr⟩ := h.tr
  refine ⟨m, h.r0, tr, ?_, rfl, fun p hp => absurd hp (by simp), fun b x hx => ⟨(h.g b x hx).1, (h.g b x hx).2, fun i o hi => absurd hi (hget_none i o)⟩⟩
  simp only [TRel, Array.toList_append, Array.toList_replicate]
  have e : n - args.toArray.size = n - args.length := by simp
  rw [e]
  refine LRel.same ?_
  rw [groundL_append, hargs, Bool.true_and, groundL_iff]
  intro z hz
  rw [(List.mem_replicate.1 hz).2]; rfl

theorem calls_in {f : FuncId} {fn : Func} {c : Code} (hO : O.h = []) (hf : P.funcs[f]? = some fn) (hb : fn.body = some c) {args : List Value} (hargs : groundL args = true) {g : Gho} {w : World} {R : Value → Gho → Prop} (hs : StG M O g w)
    (h : ∀ a, At M O ⟨args ++ List.replicate (fn.ntmps - args.length) undef, []⟩ [] g a w → c.wp P (fun e a1 w1 => (e = .normal ∨ e = .ret) ∧ ∃ s nm g1 v, At M O s nm g1 a1 w1 ∧ fin P M fn.results.toList 0 [] s = some (v, [], []) ∧ ground v = true ∧ R v g1) a w) :
    Calls P f args.toArray w fun e w' => ∃ v g1, e = .returned v ∧ ground v = true ∧ R v g1 ∧ StG M O g1 w' := by
  refine calls_of_wp hf hb (wp_mono (h _ (hs.at hargs fn.ntmps)) ?_)
  rintro e a1 w1 ⟨he, s, nm, g1, v, hat, hfin, hgv, hR⟩
  have hst := hat.forget hO
  obtain ⟨m, hat⟩ := hat
  have hrun : ∃ v', (results fn a1.tmps).run P w1 = .ok v' w1 ∧ v' = v := by
    unfold fin at hfin
    split at hfin
    · rename_i us hus
      split at hfin
      · split at hfin
        · rename_i objs hg
          split at hfin
          · rename_i lo v1 hlo hv
            cases hfin
            obtain ⟨v', hrun, hvr⟩ := results_sound hat.tr.rel hat.t hus
            have hemb : Emb (idx (List.range 0 ++ [])) m s.heap m [] := fun i j o hj ho => by simp [idx] at hj
            have h2 := hvr.ren hemb hv
            exact ⟨v', hrun, h2.eq hgv⟩
          · cases hfin
        · cases hfin
      · cases hfin
    · cases hfin
  obtain ⟨v', hrun, rfl⟩ := hrun
  rcases he with rfl | rfl
  · exact ⟨hat.d, v', hrun, v', g1, rfl, hgv, hR, hst⟩
  · exact ⟨hat.d, v', hrun, v', g1, rfl, hgv, hR, hst⟩

/-- Such a call. -/
theorem At.callIn {ops : Array Oper} {Q : Exit → Go.Act → World → Prop} {i : Nat} {rest : List Nat} (hO : O.h = []) {s : ASt} {nm : List (Nat × Nat)} {g : Gho} {a : Go.Act} {w : World} (h : At M O s nm g a w) {o : Oper} {fx : Operand} {xs : Array Operand} {ts : Array TypeId}
    (ho : ops[i]? = some o) (hg : o.guard = none) (hop : o.op = .call ⟨.value fx, xs, ts⟩) {f : FuncId} (hf : aev s.tmps fx = some (.func (.func f) #[] #[])) (hen : Enters P f) {us : List Value} (hus : avals (aev s.tmps) xs.toList = some us) (hgu : groundL us = true) {R : Value → Gho → Prop}
    (hc : ∀ gx : Gho, (∀ b x y, gx b x → ¬ g b y) → StG M O (fun b x => g b x ∨ gx b x) w → Calls P f us.toArray w fun e w' => ∃ v g1, e = .returned v ∧ ground v = true ∧ (R v g1 ∧ ∀ b x, g1 b x → ∃ y, g b y) ∧ StG M O (fun b x => g1 b x ∨ gx b x) w')
    (hk : ∀ v g1 w', R v g1 → At M O ⟨aput s.tmps o.dst v, s.heap⟩ nm g1 (a.put o.dst v) w' → wpOps P ops Q rest (a.put o.dst v) w') : wpOps P ops Q (i :: rest) a w := by
  have hst0 := h.forget hO
  obtain ⟨m, h⟩ := h
  have hfe : a.eval fx = .func (.func f) #[] #[] := (aev_sound h.t hf).eq rfl
  have hul : LRel m s.heap us (xs.toList.map a.eval) := avals_sound (fun x u hx => aev_sound h.t hx) _ _ hus
  have hue : xs.map a.eval = us.toArray := by
    have := hul.eq hgu
    apply Array.ext'
    simpa using this
  have hw : Region.wanted o (yielded ops a.tmps) = true := by unfold Region.wanted; rw [hg]
  simp only [wpOps, ho, hw, if_true]
  refine .inl ?_
  have harr : (#[] ++ xs.map a.eval ++ #[] : Array Value) = us.toArray := by rw [hue]; simp
  simp only [Oper.wp, execOp_call hop hfe hen, Oper.upon, harr]
  refine (hc (fun b x => ∃ i o p, hget s.heap i = some o ∧ b = (m i).1 ∧ w.heap[b]? = some p ∧ x = .obj p) (fun b x y ⟨i, o, p, hi, hb, _⟩ hy => (h.g b y hy).2.2 i o hi hb.symm) ⟨hst0.r0, hst0.tr, fun b x hx => ?_⟩).mono ?_
  · rcases hx with hx | ⟨i, o, p, hi, rfl, hp, rfl⟩
    · exact hst0.g b x hx
    · refine ⟨hp, ?_⟩
      rcases h.tr.own i o hi with h1 | ⟨j, oj, hj, _⟩
      · exact h1
      · rw [hO] at hj; exact absurd hj (hget_none j oj)
  · rintro e w' ⟨v, g1, rfl, hgv, ⟨hR, hsub⟩, hst⟩
    refine hk v g1 w' hR ⟨m, h.r0, ?_, aput_sound h.t (.same hgv), by cases o.dst <;> exact h.d, h.nm, fun b x hx => ?_⟩
    · obtain ⟨m2, tr2⟩ := hst.tr
      refine ⟨⟨h.tr.rel.inj, fun i o hi => ?_, fun b off v hv => ?_, fun b x hx => ?_⟩, h.tr.ext, tr2.os, tr2.tape, tr2.output, tr2.size, tr2.frame, h.tr.own⟩
      · obtain ⟨cs, t, fz, x⟩ := h.tr.rel.obj i o hi
        have hblk : w'.heap[(m i).1]? = some (.cells cs t fz) := (hst.g _ _ (.inr ⟨i, o, _, hi, rfl, x.blk, rfl⟩)).1
        exact ⟨cs, t, fz, hblk, x.size, x.len, x.free, x.one, x.flat, x.rel⟩
      · obtain ⟨h1, h2, h3, _⟩ := tr2.rel.ro b off v hv
        exact ⟨h1, h2, h3, (h.tr.rel.ro b off v hv).2.2.2⟩
      · exact ⟨(tr2.rel.big b x hx).1, (h.tr.rel.big b x hx).2⟩
    · obtain ⟨y, hy⟩ := hsub b x hx
      obtain ⟨k1, k2⟩ := hst.g b x (.inl hx)
      exact ⟨k1, k2, (h.g b y hy).2.2⟩

theorem AtV.callIn {ops : Array Oper} {Q : Exit → Go.Act → World → Prop} {i : Nat} {rest : List Nat} (hO : O.h = []) {N : Nat} {live live' : List Nat} {V : List Value} {H : AHeap} {nm : List (Nat × Nat)} {g : Gho} {a : Go.Act} {w : World} (h : AtV M O N live V H nm g a w) {o : Oper} {fx : Operand} {xs : Array Operand} {ts : Array TypeId}
    (ho : ops[i]? = some o) (hg : o.guard = none) (hop : o.op = .call ⟨.value fx, xs, ts⟩) {f : FuncId} (hf : ∀ z, aev (mkT N live V z) fx = some (.func (.func f) #[] #[])) (hen : Enters P f) {us : List Value} (hus : ∀ z, avals (aev (mkT N live V z)) xs.toList = some us) (hgu : groundL us = true) {R : Value → Gho → Prop}
    (hc : ∀ gx : Gho, (∀ b x y, gx b x → ¬ g b y) → StG M O (fun b x => g b x ∨ gx b x) w → Calls P f us.toArray w fun e w' => ∃ v g1, e = .returned v ∧ ground v = true ∧ (R v g1 ∧ ∀ b x, g1 b x → ∃ y, g b y) ∧ StG M O (fun b x => g1 b x ∨ gx b x) w')
    {V' : Value → List Value} (hl : ∀ z v, lookT (aput (mkT N live V z) o.dst v) live' = V' v)
    (hk : ∀ v g1 w', R v g1 → AtV M O N live' (V' v) H nm g1 (a.put o.dst v) w' → wpOps P ops Q rest (a.put o.dst v) w') : wpOps P ops Q (i :: rest) a w := by
  obtain ⟨z, h⟩ := h
  refine h.callIn hO ho hg hop (hf z) hen (hus z) hgu hc fun v g1 w' hR h1 => hk v g1 w' hR ?_
  have h2 := AtV.of h1 live'
  have hN : (aput (mkT N live V z) o.dst v).length = N := by cases o.dst <;> simp [aput, mkT]
  simp only [hl z v, hN] at h2
  exact h2
end
end Go.Ab

namespace Go.Ab
noncomputable def ovH (t0 : TypeId) (vf : Nat → List Value) (P : Program) (M : Mem) : Ov := fun h ρ op => match op with
  | .load t (.tmp k) => ovG t0 (vf k) (fun _ => none) P M h ρ (.load t (.tmp k))
  | op => ovI 1000000 [] (fun _ => none) P M h ρ op
theorem ovH_ok (t0 : TypeId) (vf : Nat → List Value) (P : Program) (M : Mem) : OvOk P M (ovH t0 vf P M) := by
  intro K cl h ρ op act p hov hp
  unfold ovH at hov
  split at hov
  · exact ovG_ok t0 _ _ P M K cl h ρ _ act p hov hp
  · exact ovI_ok _ _ _ P M K cl h ρ _ act p hov hp
end Go.Ab

namespace Go.Ab
section
variable {P : Program} {M : Mem} {O : Org}
/-- Known cells become an object, by the slice that names them. -/
theorem AtV.openS {N : Nat} {live : List Nat} {V V' : List Value} {H : AHeap} {nm : List (Nat × Nat)} {g : Gho} {a : Go.Act} {w : World} (h : AtV M O N live V H nm g a w) {b : Nat} {l : List Value} (hb : g b (.cells l)) (e : Nat) (hnm : nm.all (fun p => Nat.blt p.1 H.length) = true)
    {n c : Nat} (hnc : n ≤ c) (ho : OpenL (.slice (some ⟨b, 0, none⟩) n c) (.slice (some ⟨H.length, 0, some l.length⟩) n c) V V') : AtV M O N live V' (H ++ [some ⟨l, false, e, true⟩]) ((H.length, b) :: nm) (fun b' x => g b' x ∧ b' ≠ b) a w := by
  obtain ⟨z, m, h⟩ := h
  obtain ⟨⟨hgr, cs, t, fz, hblk, hlen, hfree, hone, hcells⟩, hbase, hdis⟩ := h.g b _ hb
  have hnone : ∀ i o, hget H i = some o → i ≠ H.length := fun i o hi => by have := hget_lt hi; omega
  let m' : Pl := fun k => if k = H.length then (b, cs.size) else m k
  have mold : ∀ i o, hget H i = some o → m' i = m i := fun i o hi => if_neg (hnone i o hi)
  have mnew : m' H.length = (b, cs.size) := if_pos rfl
  have ext : Ext m H m' (H ++ [some ⟨l, false, e, true⟩]) := fun i o hi => ⟨o, hget_snoc hi, rfl, rfl, rfl, Nat.le_refl _, fun _ => mold i o hi⟩
  have hnew : hget (H ++ [some ⟨l, false, e, true⟩]) H.length = some ⟨l, false, e, true⟩ := by simp [hget]
  have rel : HRel M m' (H ++ [some ⟨l, false, e, true⟩]) w := by
    refine ⟨fun i j oi oj hi hj he => ?_, fun i o hi => ?_, fun b' off v hv => ?_, fun b' x hx => ?_⟩
    · rcases hget_snoc_inv hi with h1 | ⟨rfl, _⟩ <;> rcases hget_snoc_inv hj with h2 | ⟨rfl, _⟩
      · rw [mold i _ h1, mold j _ h2] at he; exact h.tr.rel.inj i j _ _ h1 h2 he
      · rw [mold i _ h1, mnew] at he; exact absurd he (hdis i _ h1)
      · rw [mold j _ h2, mnew] at he; exact absurd he.symm (hdis j _ h2)
      · rfl
    · rcases hget_snoc_inv hi with h1 | ⟨rfl, rfl⟩
      · obtain ⟨cs', t', fz', x⟩ := h.tr.rel.obj i o h1
        have e1 := mold i _ h1
        exact ⟨cs', t', fz', by rw [e1]; exact x.blk, by rw [e1]; exact x.size, x.len, x.free, x.one, x.flat, fun j u v hu hv => (x.rel j u v hu hv).mono ext⟩
      · refine ⟨cs, t, fz, by rw [mnew]; exact hblk, by rw [mnew], hlen, hfree, hone, fun _ => hgr, fun j u v hu hv => ?_⟩
        have := hcells j u hu
        rw [hv] at this; cases this
        exact .same (groundL_get hgr hu)
    · obtain ⟨h1, h2, h3, h4⟩ := h.tr.rel.ro b' off v hv
      refine ⟨h1, h2, h3, fun i o hi he => ?_⟩
      rcases hget_snoc_inv hi with h5 | ⟨rfl, _⟩
      · rw [mold i _ h5] at he; exact h4 i o h5 he
      · rw [mnew] at he
        have := h.r0.ro_lt hv
        simp only at he; omega
    · obtain ⟨h1, h4⟩ := h.tr.rel.big b' x hx
      refine ⟨h1, fun i o hi he => ?_⟩
      rcases hget_snoc_inv hi with h5 | ⟨rfl, _⟩
      · rw [mold i _ h5] at he; exact h4 i o h5 he
      · rw [mnew] at he
        have := h.r0.big_lt hx
        simp only at he; omega
  have tr : Tr M O.m O.h O.w m' (H ++ [some ⟨l, false, e, true⟩]) w := ⟨rel, h.tr.ext.trans ext, h.tr.os, h.tr.tape, h.tr.output, h.tr.size, h.tr.frame, fun i o hi => by
    rcases hget_snoc_inv hi with h1 | ⟨rfl, _⟩
    · rw [mold i _ h1]; exact h.tr.own i o h1
    · rw [mnew]; exact .inl hbase⟩
  refine ⟨z, m', h.r0, tr, ⟨by have := h.t.1; simp [mkT] at this ⊢; exact this, fun t u v hu hv => ?_⟩, h.d, fun p hp => ?_, fun b' x hx => ?_⟩
  · obtain ⟨ht, hu⟩ := mkT_get hu
    have hold := h.t.2 t _ v (mkT_at ht) hv
    rcases hu with ⟨k, hk, rfl⟩ | ⟨hk, rfl⟩
    · rw [hk] at hold
      simp only at hold
      rcases ho.get k with h1 | ⟨h1, h2⟩
      · rw [h1]; exact hold.mono ext
      · rw [h1] at hold
        have := hold.eq rfl
        subst this
        rw [h2]
        exact .slc hnew (Nat.le_refl _) ⟨hnc, Nat.le_refl _⟩ fun _ => ⟨fun _ => by rw [mnew], fun _ => rfl, fun hg => by cases hg⟩
    · rw [hk] at hold; exact hold.mono ext
  · rcases List.mem_cons.1 hp with rfl | hp
    · rw [mnew]
    · have := Nat.blt_eq.mp (List.all_eq_true.1 hnm p hp)
      rw [show m' p.1 = m p.1 from if_neg (by omega)]; exact h.nm p hp
  · obtain ⟨h1, h2⟩ := hx
    obtain ⟨h3, h4, h5⟩ := h.g b' x h1
    refine ⟨h3, h4, fun i o hi he => ?_⟩
    rcases hget_snoc_inv hi with h6 | ⟨rfl, _⟩
    · rw [mold i _ h6] at he; exact h5 i o h6 he
    · rw [mnew] at he; exact h2 he.symm

end
end Go.Ab

namespace Go.Ab

/-- All orders. -/
def allOrd (md : Region.Mode) (ops : Array Oper) : Nat → Array Bool → List (List Nat)
  | 0, _ => [[]]
  | f + 1, listed => match Region.ready md ops listed with
    | [] => [[]]
    | l => l.flatMap fun i => (allOrd md ops f (listed.setIfInBounds i true)).map (i :: ·)

theorem lin_mem (md : Region.Mode) (ops : Array Oper) : ∀ (fuel t : Nat) (listed : Array Bool), Region.linearise.go md ops fuel t listed [] ∈ allOrd md ops fuel listed := by
  intro fuel
  induction fuel with
  | zero => intro t listed; simp [Region.linearise.go, allOrd]
  | succ fuel ih =>
    intro t listed
    have e : Region.linearise.go md ops (fuel + 1) t listed [] = match (Region.ready md ops listed)[t % (Region.ready md ops listed).length]? with
      | some i => Region.linearise.go md ops fuel (t / (Region.ready md ops listed).length) (listed.setIfInBounds i true) [i]
      | none => [] := rfl
    rw [e]
    cases hi : (Region.ready md ops listed)[t % (Region.ready md ops listed).length]? with
    | none =>
      have hnil : Region.ready md ops listed = [] := by
        cases hr : Region.ready md ops listed with
        | nil => rfl
        | cons x l =>
          rw [hr] at hi
          rw [List.getElem?_eq_none_iff] at hi
          have := Nat.mod_lt t (show 0 < (x :: l).length by simp)
          omega
      simp only [allOrd, hnil, List.mem_singleton]
    | some i =>
      simp only
      rw [linearise_go_acc]
      have hm := List.mem_of_getElem? hi
      have hne : Region.ready md ops listed ≠ [] := fun h0 => by rw [h0] at hm; simp at hm
      unfold allOrd
      split
      · rename_i h0; exact absurd h0 hne
      · rw [List.mem_flatMap]
        exact ⟨i, hm, List.mem_map.2 ⟨_, ih _ _, rfl⟩⟩

theorem wp_rgnD {P : Program} (hmix : P.follows .mixedOrders = true) {c : Code} {Q : Exit → Go.Act → World → Prop} {a : Go.Act} {w : World} {id : Nat} {ops : Array Oper} (hc : c = .region id ops true) {ls : List (List Nat)} (hl : allOrd .any ops ops.size (Array.replicate ops.size false) = ls)
    (h : ∀ l ∈ ls, wpOps P ops Q l a { w with drawn := w.drawn + 1 }) : c.wp P Q a w := by
  subst hc
  refine wp_region_draw fun t => ?_
  simp only [Region.schedule, hmix, Bool.true_or, if_true]
  refine h _ ?_
  rw [← hl]
  exact lin_mem .any ops ops.size t _
end Go.Ab

namespace Go.Ab
section
variable {P : Program} {M : Mem} {O : Org}
theorem AtV.loadBy {ops : Array Oper} {Q : Exit → Go.Act → World → Prop} {i : Nat} {rest : List Nat} {N : Nat} {live live' : List Nat} {V V' : List Value} {H : AHeap} {nm : List (Nat × Nat)} {g : Gho} {a : Go.Act} {w : World} (h : AtV M O N live V H nm g a w) {o : Oper} {t : TypeId} {x : Operand}
    (ho : ops[i]? = some o) (hg : o.guard = none) (hop : o.op = .load t x) {b off : Nat} (hx : ∀ z, aev (mkT N live V z) x = some (.pointer (some ⟨b, off, none⟩))) {rs us : List Value} {d : TypeDesc} (hu : P.underlying t = some d) (hd : d.isRow = true) (hi : (P.info? t).map (·.size) = some rs.length)
    (hcell : ∀ m, HRel M m H w → w.rangeAt b off rs) (hrel : ∀ m, HRel M m H w → VRel m H (.agg ⟨us⟩) (.agg rs.toArray)) (hl : ∀ z, lookT (aput (mkT N live V z) o.dst (.agg ⟨us⟩)) live' = V')
    (k : ∀ a1, AtV M O N live' V' H nm g a1 w → wpOps P ops Q rest a1 w) : wpOps P ops Q (i :: rest) a w := by
  obtain ⟨z, m, h⟩ := h
  have hxe : a.eval x = .pointer (some ⟨b, off, none⟩) := (aev_sound h.t (hx z)).eq rfl
  refine wpOps_value ho hg (v := .agg rs.toArray) (w' := w) ?_ (k _ ?_)
  · have := run_loadAt_mid (P := P) w b off t rs d (hcell m h.tr.rel) hu hd hi
    simp only [execOp, hop, hxe, Sem.run_bind, this, Result.andThen_ok, Sem.run_pure]
  · have h1 : AtM M O ⟨aput (mkT N live V z) o.dst (.agg ⟨us⟩), H⟩ nm g (a.put o.dst (.agg rs.toArray)) w m := ⟨h.r0, h.tr, aput_sound h.t (hrel m h.tr.rel), by cases o.dst <;> exact h.d, h.nm, h.g⟩
    have h2 := AtV.of ⟨m, h1⟩ live'
    have hN : (aput (mkT N live V z) o.dst (.agg ⟨us⟩)).length = N := by cases o.dst <;> simp [aput, mkT]
    simp only [hl z, hN] at h2
    exact h2
end
end Go.Ab

