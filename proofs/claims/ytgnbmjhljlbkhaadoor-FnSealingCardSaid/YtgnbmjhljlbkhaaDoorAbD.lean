/- an abstract interpreter for the model's code is sound: draws, arrays loaded, further operations.
   Conditions: none. -/
import Derived.Test.YtgnbmjhljlbkhaaDoorAbC
set_option linter.unusedVariables false
set_option linter.unusedSimpArgs false
namespace Go.Ab

def ovD (P : Program) (M : Mem) : Ov := fun h ρ op => match op with
  | .binOp .rem t x y _ => match ρ x, ρ y with
    | some (.int k a), some (.int k2 b) => if k = k2 then some (uAct [] [] fun _ => (.int k (a.tmod b), [], []), [(decide (b = 0), false)]) else none
    | _, _ => none
  | .binOp .quo t x y _ => match ρ x, ρ y with
    | some (.int k a), some (.int k2 b) => if k = k2 then some (uAct [] [] fun _ => (.int k (k.wrap (a.tdiv b)), [], []), [(decide (b = 0), false)]) else none
    | _, _ => none
  | op => ovR P M h ρ op

theorem ovD_ok (P : Program) (M : Mem) : OvOk P M (ovD P M) := by
  intro K cl h ρ op act p hov hp
  unfold ovD at hov
  split at hov
  · rename_i t x y tt
    split at hov
    · rename_i k a k2 b hx hy
      split at hov
      · rename_i hk
        subst hk
        cases hov
        rw [held_one_iff, decide_eq_false_iff_not] at hp
        refine ⟨pureAct (.int k (a.tmod b)), ?_, uAct_same rfl rfl (gather_nil h) (gather_nil h) fun b => rfl⟩
        have hb : bo P .rem t x y (.int k a) (.int k b) = some (.int k (a.tmod b)) := by
          have e : (do eqGuard .rem t x y (.int k a) (.int k b); binOp .rem t (.int k a) (.int k b) : Sem Value) = pure (.int k (a.tmod b)) := by
            rw [eqGuard_rem, binOp_rem]
            unfold Op.intDiv
            rw [if_neg hp]
            rfl
          unfold bo
          simp only [e]
          rfl
        simp only [opAct, pv, hx, hy, ground, Bool.and_self, if_true, hb]
      · cases hov
    · cases hov
  · rename_i t x y tt
    split at hov
    · rename_i k a k2 b hx hy
      split at hov
      · rename_i hk
        subst hk
        cases hov
        rw [held_one_iff, decide_eq_false_iff_not] at hp
        refine ⟨pureAct (.int k (k.wrap (a.tdiv b))), ?_, uAct_same rfl rfl (gather_nil h) (gather_nil h) fun b => rfl⟩
        have hb : bo P .quo t x y (.int k a) (.int k b) = some (.int k (k.wrap (a.tdiv b))) := by
          have e : (do eqGuard .quo t x y (.int k a) (.int k b); binOp .quo t (.int k a) (.int k b) : Sem Value) = pure (.int k (k.wrap (a.tdiv b))) := by
            rw [eqGuard_quo, binOp_quo]
            unfold Op.intDiv
            rw [if_neg hp]
            rfl
          unfold bo
          simp only [e]
          rfl
        simp only [opAct, pv, hx, hy, ground, Bool.and_self, if_true, hb]
      · cases hov
    · cases hov
  · exact ovR_ok P M K cl h ρ _ act p hov hp

/-! ### The source of draws -/
/-- What is drawn of k. -/
def nK (k x : Int) : Int := if k ≤ 1 then 0 else nR x k
theorem nK_range {k x : Int} (hx : 0 ≤ x) (h1 : 1 ≤ k) (h2 : k ≤ 4611686018427387904) : 0 ≤ nK k x ∧ nK k x < k := by
  unfold nK
  split
  · omega
  · exact nR_range hx (by omega) h2

/-- The source's number and place behind one draw. -/
def nextC (M : Mem) (u : Option Addr) (n : Nat) (p : Int × Int) : Int × Int := (nX p.1 (nC M u n p.2), nI n p.2)
def drawC (M : Mem) (u : Option Addr) (n : Nat) (p : Int × Int) : Nat → Int × Int
  | 0 => p
  | k + 1 => nextC M u n (drawC M u n p k)

theorem nI_ok {n : Nat} (hn : n ≤ 1048576) {i : Int} (h : 0 ≤ i) : 0 ≤ nI n i := by
  unfold nI
  split
  · rw [wrap_i64 (by omega) (by omega)]; omega
  · exact h
theorem drawC_ok {M : Mem} {u : Option Addr} {n : Nat} (hn : n ≤ 1048576) {p : Int × Int} (hp : 0 ≤ p.2) : ∀ k, 0 ≤ (drawC M u n p k).2 := by
  intro k
  induction k with
  | zero => exact hp
  | succ k ih => exact nI_ok hn ih
theorem drawC_x {M : Mem} {u : Option Addr} {n : Nat} {p : Int × Int} (k : Nat) : 0 ≤ (drawC M u n p (k + 1)).1 := (nX_has _ _).1

/-- The source's cells. -/
def srcC (u : Option (Nat × Nat)) (n c : Nat) (i x : Int) : List Value :=
  match u with
  | some (b, off) => [.slice (some ⟨b, off, none⟩) n c, .int .i64 i, .int .u64 x]
  | none => [.slice none 0 0, .int .i64 i, .int .u64 x]
def srcA (u : Option (Nat × Nat)) : Option Addr :=
  match u with
  | some (b, off) => some ⟨b, off, none⟩
  | none => none
def lenS (u : Option (Nat × Nat)) (n : Nat) : Nat :=
  match u with
  | some _ => n
  | none => 0

/-- One draw of whatever bound. -/
def nSumG (M : Mem) (f : FuncId) : Sum :=
  { f := f, ro := false
    S := fun args os => match args, os with
      | [.pointer (some ⟨0, 0, some 3⟩), .int .i64 k], [⟨[.slice (some ⟨b, off, none⟩) n c, .int .i64 i, .int .u64 x], g, e, false⟩] =>
          some (.int .i64 (nK k (nX x (nC M (some ⟨b, off, none⟩) n i))), [⟨[.slice (some ⟨b, off, none⟩) n c, .int .i64 (nI n i), .int .u64 (nX x (nC M (some ⟨b, off, none⟩) n i))], g, e, false⟩], [])
      | [.pointer (some ⟨0, 0, some 3⟩), .int .i64 k], [⟨[.slice none 0 0, .int .i64 i, .int .u64 x], g, e, false⟩] =>
          some (.int .i64 (nK k (nX x (nC M none 0 i))), [⟨[.slice none 0 0, .int .i64 (nI 0 i), .int .u64 (nX x (nC M none 0 i))], g, e, false⟩], [])
      | _, _ => none
    C := fun args os => match args, os with
      | [_, .int .i64 k], [⟨[.slice u n c, .int .i64 i, .int .u64 x], g, e, false⟩] => [(nOk M u n && decide (0 ≤ i), true), (decide (k ≤ 4611686018427387904), true)]
      | _, _ => [] }

theorem nSumG_sound {P : Program} {M : Mem} {f : FuncId} {fn : Func} (hf : P.funcs[f]? = some fn) (hn : (fn.name == "runtime.NumGoroutine") = false) (hb : fn.body.isSome = true)
    (hs1 : ∀ (b off n c : Nat) (i x k : Int) (g : Bool) (e : Nat), Held [(decide (i < (n : Int)), true), (inB i n, true), (roB .u8 M b (off + i.toNat * 1), true), (decide (k ≤ 1), false), (decide (IntKind.wrap .u64 k = 0), false)] →
      ACalls P M f [.pointer (some ⟨0, 0, some 3⟩), .int .i64 k] [⟨[.slice (some ⟨b, off, none⟩) n c, .int .i64 i, .int .u64 x], g, e, false⟩]
        (.int .i64 (nR (nX x (IntKind.wrap .u64 (IntKind.wrap .u64 (vint ((M b (off + i.toNat * 1)).getD undef)) + 1))) k))
        [⟨[.slice (some ⟨b, off, none⟩) n c, .int .i64 (IntKind.wrap .i64 (i + 1)), .int .u64 (nX x (IntKind.wrap .u64 (IntKind.wrap .u64 (vint ((M b (off + i.toNat * 1)).getD undef)) + 1)))], g, e, false⟩] [])
    (hs0 : ∀ (b off n c : Nat) (i x k : Int) (g : Bool) (e : Nat), Held [(decide (i < (n : Int)), true), (inB i n, true), (roB .u8 M b (off + i.toNat * 1), true), (decide (k ≤ 1), true)] →
      ACalls P M f [.pointer (some ⟨0, 0, some 3⟩), .int .i64 k] [⟨[.slice (some ⟨b, off, none⟩) n c, .int .i64 i, .int .u64 x], g, e, false⟩]
        (.int .i64 0)
        [⟨[.slice (some ⟨b, off, none⟩) n c, .int .i64 (IntKind.wrap .i64 (i + 1)), .int .u64 (nX x (IntKind.wrap .u64 (IntKind.wrap .u64 (vint ((M b (off + i.toNat * 1)).getD undef)) + 1)))], g, e, false⟩] [])
    (hn1 : ∀ (b off n c : Nat) (i x k : Int) (g : Bool) (e : Nat), Held [(decide (i < (n : Int)), false), (decide (k ≤ 1), false), (decide (IntKind.wrap .u64 k = 0), false)] →
      ACalls P M f [.pointer (some ⟨0, 0, some 3⟩), .int .i64 k] [⟨[.slice (some ⟨b, off, none⟩) n c, .int .i64 i, .int .u64 x], g, e, false⟩]
        (.int .i64 (nR (nX x 0) k)) [⟨[.slice (some ⟨b, off, none⟩) n c, .int .i64 i, .int .u64 (nX x 0)], g, e, false⟩] [])
    (hn0 : ∀ (b off n c : Nat) (i x k : Int) (g : Bool) (e : Nat), Held [(decide (i < (n : Int)), false), (decide (k ≤ 1), true)] →
      ACalls P M f [.pointer (some ⟨0, 0, some 3⟩), .int .i64 k] [⟨[.slice (some ⟨b, off, none⟩) n c, .int .i64 i, .int .u64 x], g, e, false⟩]
        (.int .i64 0) [⟨[.slice (some ⟨b, off, none⟩) n c, .int .i64 i, .int .u64 (nX x 0)], g, e, false⟩] [])
    (hz1 : ∀ (i x k : Int) (g : Bool) (e : Nat), Held [(decide (i < ((0 : Nat) : Int)), false), (decide (k ≤ 1), false), (decide (IntKind.wrap .u64 k = 0), false)] →
      ACalls P M f [.pointer (some ⟨0, 0, some 3⟩), .int .i64 k] [⟨[.slice none 0 0, .int .i64 i, .int .u64 x], g, e, false⟩] (.int .i64 (nR (nX x 0) k)) [⟨[.slice none 0 0, .int .i64 i, .int .u64 (nX x 0)], g, e, false⟩] [])
    (hz0 : ∀ (i x k : Int) (g : Bool) (e : Nat), Held [(decide (i < ((0 : Nat) : Int)), false), (decide (k ≤ 1), true)] →
      ACalls P M f [.pointer (some ⟨0, 0, some 3⟩), .int .i64 k] [⟨[.slice none 0 0, .int .i64 i, .int .u64 x], g, e, false⟩] (.int .i64 0) [⟨[.slice none 0 0, .int .i64 i, .int .u64 (nX x 0)], g, e, false⟩] []) : (nSumG M f).SoundC P M := by
  refine sumC_sound hf hn hb fun args os v os' ns hs hp => ?_
  have hu : ∀ k : Int, ¬ k ≤ 1 → k ≤ 4611686018427387904 → decide (IntKind.wrap .u64 k = 0) = false := fun k h1 h2 => by
    rw [decide_eq_false_iff_not, wrap_u64]; omega
  simp only [nSumG] at hs hp ⊢
  split at hs
  · rename_i k b off n c i x g e
    cases hs
    have h1 := hp (nOk M (some ⟨b, off, none⟩) n && decide (0 ≤ i), true) (List.Mem.head _)
    have h3 := hp (decide (k ≤ 4611686018427387904), true) (List.Mem.tail _ (List.Mem.head _))
    simp only [Bool.and_eq_true, decide_eq_true_eq] at h1 h3
    refine ⟨?_, fun h => by cases h⟩
    by_cases hi : i < (n : Int)
    · have e1 : nC M (some ⟨b, off, none⟩) n i = IntKind.wrap .u64 (IntKind.wrap .u64 (vint ((M b (off + i.toNat * 1)).getD undef)) + 1) := by simp only [nC, if_pos hi]
      have e2 : nI n i = IntKind.wrap .i64 (i + 1) := by simp only [nI, if_pos hi]
      have a1 : decide (i < (n : Int)) = true := by simpa using hi
      have a2 : inB i n = true := by rw [inB_iff]; exact ⟨h1.2, hi⟩
      have a3 : roB .u8 M b (off + i.toNat * 1) = true := by rw [Nat.mul_one]; exact nOk_at h1.1 h1.2 hi
      rw [e1, e2]
      by_cases hk : k ≤ 1
      · have : nK k (nX x (IntKind.wrap .u64 (IntKind.wrap .u64 (vint ((M b (off + i.toNat * 1)).getD undef)) + 1))) = 0 := by simp only [nK, if_pos hk]
        rw [this]
        exact hs0 b off n c i x k g e (held_cons a1 (held_cons a2 (held_cons a3 (held_one (by simpa using hk)))))
      · have : nK k (nX x (IntKind.wrap .u64 (IntKind.wrap .u64 (vint ((M b (off + i.toNat * 1)).getD undef)) + 1))) = nR (nX x (IntKind.wrap .u64 (IntKind.wrap .u64 (vint ((M b (off + i.toNat * 1)).getD undef)) + 1))) k := by simp only [nK, if_neg hk]
        rw [this]
        exact hs1 b off n c i x k g e (held_cons a1 (held_cons a2 (held_cons a3 (held_cons (by simpa using hk) (held_one (hu k hk h3))))))
    · have e1 : nC M (some ⟨b, off, none⟩) n i = 0 := by simp only [nC, if_neg hi]
      have e2 : nI n i = i := by simp only [nI, if_neg hi]
      have a1 : decide (i < (n : Int)) = false := by simpa using hi
      rw [e1, e2]
      by_cases hk : k ≤ 1
      · have : nK k (nX x 0) = 0 := by simp only [nK, if_pos hk]
        rw [this]
        exact hn0 b off n c i x k g e (held_cons a1 (held_one (by simpa using hk)))
      · have : nK k (nX x 0) = nR (nX x 0) k := by simp only [nK, if_neg hk]
        rw [this]
        exact hn1 b off n c i x k g e (held_cons a1 (held_cons (by simpa using hk) (held_one (hu k hk h3))))
  · rename_i k i x g e
    cases hs
    have h1 := hp (nOk M none 0 && decide (0 ≤ i), true) (List.Mem.head _)
    have h3 := hp (decide (k ≤ 4611686018427387904), true) (List.Mem.tail _ (List.Mem.head _))
    simp only [Bool.and_eq_true, decide_eq_true_eq] at h1 h3
    refine ⟨?_, fun h => by cases h⟩
    have hi : ¬ i < ((0 : Nat) : Int) := by have := h1.2; omega
    have e1 : nC M none 0 i = 0 := rfl
    have e2 : nI 0 i = i := by simp only [nI, if_neg hi]
    have a1 : decide (i < ((0 : Nat) : Int)) = false := by simpa using hi
    rw [e1, e2]
    by_cases hk : k ≤ 1
    · have : nK k (nX x 0) = 0 := by simp only [nK, if_pos hk]
      rw [this]
      exact hz0 i x k g e (held_cons a1 (held_one (by simpa using hk)))
    · have : nK k (nX x 0) = nR (nX x 0) k := by simp only [nK, if_neg hk]
      rw [this]
      exact hz1 i x k g e (held_cons a1 (held_cons (by simpa using hk) (held_one (hu k hk h3))))
  · cases hs

/-- Once in k. -/
def oneSumG (M : Mem) (f : FuncId) : Sum :=
  { f := f, ro := false
    S := fun args os => match args, os with
      | [.pointer (some ⟨0, 0, some 3⟩), .int .i64 k], [⟨[.slice (some ⟨b, off, none⟩) n c, .int .i64 i, .int .u64 x], g, e, false⟩] =>
          some (.bool (nK k (nX x (nC M (some ⟨b, off, none⟩) n i)) == 0), [⟨[.slice (some ⟨b, off, none⟩) n c, .int .i64 (nI n i), .int .u64 (nX x (nC M (some ⟨b, off, none⟩) n i))], g, e, false⟩], [])
      | [.pointer (some ⟨0, 0, some 3⟩), .int .i64 k], [⟨[.slice none 0 0, .int .i64 i, .int .u64 x], g, e, false⟩] =>
          some (.bool (nK k (nX x (nC M none 0 i)) == 0), [⟨[.slice none 0 0, .int .i64 (nI 0 i), .int .u64 (nX x (nC M none 0 i))], g, e, false⟩], [])
      | _, _ => none
    C := fun args os => match args, os with
      | [_, .int .i64 k], [⟨[.slice u n c, .int .i64 i, .int .u64 x], g, e, false⟩] => [(nOk M u n && decide (0 ≤ i), true), (decide (k ≤ 4611686018427387904), true)]
      | _, _ => [] }

theorem oneSumG_sound {P : Program} {M : Mem} {f : FuncId} {fn : Func} (hf : P.funcs[f]? = some fn) (hn : (fn.name == "runtime.NumGoroutine") = false) (hb : fn.body.isSome = true)
    (hs : ∀ (b off n c : Nat) (i x k : Int) (g : Bool) (e : Nat), Held [(nOk M (some ⟨b, off, none⟩) n && decide (0 ≤ i), true), (decide (k ≤ 4611686018427387904), true)] →
      ACalls P M f [.pointer (some ⟨0, 0, some 3⟩), .int .i64 k] [⟨[.slice (some ⟨b, off, none⟩) n c, .int .i64 i, .int .u64 x], g, e, false⟩]
        (.bool (nK k (nX x (nC M (some ⟨b, off, none⟩) n i)) == 0)) [⟨[.slice (some ⟨b, off, none⟩) n c, .int .i64 (nI n i), .int .u64 (nX x (nC M (some ⟨b, off, none⟩) n i))], g, e, false⟩] [])
    (hz : ∀ (i x k : Int) (g : Bool) (e : Nat), Held [(nOk M none 0 && decide (0 ≤ i), true), (decide (k ≤ 4611686018427387904), true)] →
      ACalls P M f [.pointer (some ⟨0, 0, some 3⟩), .int .i64 k] [⟨[.slice none 0 0, .int .i64 i, .int .u64 x], g, e, false⟩]
        (.bool (nK k (nX x (nC M none 0 i)) == 0)) [⟨[.slice none 0 0, .int .i64 (nI 0 i), .int .u64 (nX x (nC M none 0 i))], g, e, false⟩] []) : (oneSumG M f).SoundC P M := by
  refine sumC_sound hf hn hb fun args os v os' ns h hp => ?_
  simp only [oneSumG] at h hp ⊢
  split at h
  · cases h; exact ⟨hs _ _ _ _ _ _ _ _ _ hp, fun h => by cases h⟩
  · cases h; exact ⟨hz _ _ _ _ _ hp, fun h => by cases h⟩
  · cases h

end Go.Ab

namespace Go.Ab

/-- What one draw asks for. -/
def dPin (M : Mem) (u : Option Addr) (n : Nat) (p : Int × Int) (k : Int) : Pins := [(nOk M u n && decide (0 ≤ p.2), true), (decide (k ≤ 4611686018427387904), true)]
theorem dPin_held {M : Mem} {u : Option Addr} {n : Nat} {p : Int × Int} {k : Int} (hu : nOk M u n = true) (hp : 0 ≤ p.2) (hk : k ≤ 4611686018427387904) : Held (dPin M u n p k) :=
  held_cons (by rw [hu, Bool.true_and, decide_eq_true_eq]; exact hp) (held_one (by rw [decide_eq_true_eq]; exact hk))
theorem held_two {p q : Pins} (hp : Held p) (hq : Held q) : Held (p ++ q) := fun x hx => (List.mem_append.1 hx).elim (hp x) (hq x)
def dPins (M : Mem) (u : Option Addr) (n : Nat) (D : Nat → Int × Int) (k : Int) (a : Nat) : Nat → Pins
  | 0 => []
  | m + 1 => dPin M u n (D a) k ++ dPins M u n D k (a + 1) m
theorem dPins_held {M : Mem} {u : Option Addr} {n : Nat} {D : Nat → Int × Int} {k : Int} (hu : nOk M u n = true) (hD : ∀ j, 0 ≤ (D j).2) (hk : k ≤ 4611686018427387904) : ∀ m a, Held (dPins M u n D k a m) := by
  intro m
  induction m with
  | zero => intro a; exact held_nil
  | succ m ih => intro a; intro x hx; rcases List.mem_append.1 hx with h | h; exact dPin_held hu (hD a) hk x h; exact ih (a + 1) x h

theorem u8_wrap (n : Int) : IntKind.u8.has (IntKind.u8.wrap n) := by
  rw [wrap_u8]; show 0 ≤ _ ∧ _ ≤ (255 : Int); omega

/-- N bytes come. -/
def ArrP (P : Program) (M : Mem) (f : FuncId) (N : Nat) (u : Option (Nat × Nat)) (n c : Nat) (g : Bool) (e : Nat) (p : Int × Int) (r : (Nat → Int) × (Int × Int)) : Prop :=
  (∀ j, IntKind.u8.has (r.1 j)) ∧ 0 ≤ r.2.2 ∧ ACalls P M f [.pointer (some ⟨0, 0, some 3⟩)] [⟨srcC u n c p.2 p.1, g, e, false⟩] (.agg ⟨cellsI .u8 N r.1⟩) [⟨srcC u n c r.2.2 r.2.1, g, e, false⟩] []

noncomputable def arrR (P : Program) (M : Mem) (f : FuncId) (N : Nat) (u : Option (Nat × Nat)) (n c : Nat) (g : Bool) (e : Nat) (p : Int × Int) : (Nat → Int) × (Int × Int) :=
  @Classical.epsilon ((Nat → Int) × (Int × Int)) ⟨(fun _ => 0, (0, 0))⟩ (ArrP P M f N u n c g e p)

def srcOk (M : Mem) (u : Option Addr) (n : Nat) (i : Int) : Bool := nOk M u n && (decide (n ≤ 1048576) && decide (0 ≤ i))

noncomputable def arrSumG (P : Program) (M : Mem) (f : FuncId) (N : Nat) : Sum :=
  { f := f, ro := false
    S := fun args os => match args, os with
      | [.pointer (some ⟨0, 0, some 3⟩)], [⟨[.slice (some ⟨b, off, none⟩) n c, .int .i64 i, .int .u64 x], g, e, false⟩] =>
          some (.agg ⟨cellsI .u8 N (arrR P M f N (some (b, off)) n c g e (x, i)).1⟩, [⟨[.slice (some ⟨b, off, none⟩) n c, .int .i64 (arrR P M f N (some (b, off)) n c g e (x, i)).2.2, .int .u64 (arrR P M f N (some (b, off)) n c g e (x, i)).2.1], g, e, false⟩], [])
      | [.pointer (some ⟨0, 0, some 3⟩)], [⟨[.slice none 0 0, .int .i64 i, .int .u64 x], g, e, false⟩] =>
          some (.agg ⟨cellsI .u8 N (arrR P M f N none 0 0 g e (x, i)).1⟩, [⟨[.slice none 0 0, .int .i64 (arrR P M f N none 0 0 g e (x, i)).2.2, .int .u64 (arrR P M f N none 0 0 g e (x, i)).2.1], g, e, false⟩], [])
      | _, _ => none
    C := fun args os => match os with
      | [⟨[.slice u n c, .int .i64 i, .int .u64 x], g, e, false⟩] => [(srcOk M u n i, true)]
      | _ => [] }

def ArrX (P : Program) (M : Mem) (f : FuncId) (N : Nat) : Prop := ∀ (u : Option (Nat × Nat)) (n c : Nat) (g : Bool) (e : Nat) (p : Int × Int), srcOk M (srcA u) (lenS u n) p.2 = true → ∃ r, ArrP P M f N u n c g e p r

theorem arrR_ok {P : Program} {M : Mem} {f : FuncId} {N : Nat} (hx : ArrX P M f N) {u : Option (Nat × Nat)} {n c : Nat} {g : Bool} {e : Nat} {p : Int × Int} (h : srcOk M (srcA u) (lenS u n) p.2 = true) :
    ArrP P M f N u n c g e p (arrR P M f N u n c g e p) := Classical.epsilon_spec (hx u n c g e p h)

theorem arrSumG_sound {P : Program} {M : Mem} {f : FuncId} {fn : Func} {N : Nat} (hf : P.funcs[f]? = some fn) (hn : (fn.name == "runtime.NumGoroutine") = false) (hb : fn.body.isSome = true) (hx : ArrX P M f N) : (arrSumG P M f N).SoundC P M := by
  refine sumC_sound hf hn hb fun args os v os' ns hs hp => ?_
  simp only [arrSumG] at hs hp ⊢
  split at hs
  · rename_i b off n c i x g e
    cases hs
    have h1 : srcOk M (some ⟨b, off, none⟩) n i = true := hp (_, true) (List.Mem.head _)
    exact ⟨(arrR_ok hx (u := some (b, off)) (c := c) (g := g) (e := e) (p := (x, i)) h1).2.2, fun h => by cases h⟩
  · rename_i i x g e
    cases hs
    have h1 : srcOk M none 0 i = true := hp (_, true) (List.Mem.head _)
    exact ⟨(arrR_ok hx (u := none) (n := 0) (c := 0) (g := g) (e := e) (p := (x, i)) h1).2.2, fun h => by cases h⟩
  · cases hs

theorem srcOk_iff {M : Mem} {u : Option Addr} {n : Nat} {i : Int} : srcOk M u n i = true ↔ nOk M u n = true ∧ n ≤ 1048576 ∧ 0 ≤ i := by simp [srcOk]

/-- The seed. -/
def seedC (n : Nat) : Int × Int := (IntKind.wrap .u64 (88172645463325252 + IntKind.wrap .u64 n), 0)

end Go.Ab

namespace Go.Ab

/-- Numbers that lie in an object, written out. -/
def arrU (cells : List Value) (off n : Nat) (k : IntKind) : List Value := (List.range n).map fun j => .int k (vint (atC cells (off + j)))
def arrB (o : AObj) (sz off n : Nat) (k : IntKind) : Bool := decide (o.cells.length = sz) && (decide (off + n ≤ sz) && (List.range n).all fun j => isI k (atC o.cells (off + j)))

theorem arrU_eq {o : AObj} {sz off n : Nat} {k : IntKind} (h : arrB o sz off n k = true) : (o.cells.drop off).take n = arrU o.cells off n k := by
  simp only [arrB, Bool.and_eq_true, decide_eq_true_eq, List.all_eq_true, List.mem_range] at h
  obtain ⟨h1, h2, h3⟩ := h
  apply List.ext_getElem (by simp [arrU]; omega)
  intro j a b
  have hj : j < n := by simp [arrU] at b; exact b
  have hlt : off + j < o.cells.length := by omega
  have e : o.cells[off + j] = atC o.cells (off + j) := by simp [atC, hlt]
  simp only [List.getElem_take, List.getElem_drop, arrU, List.getElem_map, List.getElem_range]
  rw [e]
  exact isI_eq (h3 j hj)

def ovE (P : Program) (M : Mem) : Ov := fun h ρ op => match op with
  | .load t x => match P.underlying t, ρ x with
    | some (.array n e), some (.pointer (some ⟨b, off, some sz⟩)) => match P.underlying e, szOf P t, aggT P t, hget h b with
      | some (.int k), some m, some true, some o => some (uAct [b] [] fun _ => (.agg ⟨arrU o.cells off m k⟩, [], []), [(arrB o sz off m k, true)])
      | _, _, _, _ => none
    | _, _ => ovD P M h ρ (.load t x)
  | .sliceToArrayPointer t x => match P.underlying t, ρ x with
    | some (.array n _), some (.slice (some a) len _) => some (uAct [] [] fun _ => (.pointer (some a), [], []), [(decide (0 < n) && decide (n ≤ len), true)])
    | _, _ => none
  | op => ovD P M h ρ op

theorem ovE_ok (P : Program) (M : Mem) : OvOk P M (ovE P M) := by
  intro K cl h ρ op act p hov hp
  unfold ovE at hov
  split at hov
  · rename_i t x
    split at hov
    · rename_i n e b off sz hu hx
      split at hov
      · rename_i k m o hk hm ha ho
        cases hov
        rw [held_one_iff] at hp
        have he := arrU_eq hp
        simp only [arrB, Bool.and_eq_true, decide_eq_true_eq] at hp
        refine ⟨loadAct P M t ⟨b, off, some sz⟩, by simp only [opAct, hx], uAct_same rfl rfl (gather_one' ho) (gather_nil h) fun _ => ?_⟩
        simp only [loadAct, oval, hp.1, if_true, ha, hm, hp.2.1, he]
      · cases hov
    · exact ovD_ok P M K cl h ρ _ act p hov hp
  · rename_i t x
    split at hov
    · rename_i n e a len c hu hx
      cases hov
      rw [held_one_iff] at hp
      simp only [Bool.and_eq_true, decide_eq_true_eq] at hp
      refine ⟨pureAct (.pointer (some a)), ?_, uAct_same rfl rfl (gather_nil h) (gather_nil h) fun b => rfl⟩
      simp only [opAct, pv, hu, hx, hp, and_self, if_true]
    · cases hov
  · exact ovD_ok P M K cl h ρ _ act p hov hp

/-- Two rows of numbers compared, as the model's '==' on arrays does. -/
def allEq (x y : Nat → Int) (a : Nat) : Nat → Bool
  | 0 => true
  | m + 1 => (x a == y a) && allEq x y (a + 1) m
theorem allEq_iff {x y : Nat → Int} : ∀ {m a : Nat}, allEq x y a m = true ↔ ∀ j, a ≤ j → j < a + m → x j = y j := by
  intro m
  induction m with
  | zero => intro a; exact ⟨fun _ j h1 h2 => by omega, fun _ => rfl⟩
  | succ m ih =>
    intro a
    simp only [allEq, Bool.and_eq_true, beq_iff_eq, ih]
    constructor
    · rintro ⟨h1, h2⟩ j h3 h4
      by_cases e : j = a
      · rw [e]; exact h1
      · exact h2 j (by omega) (by omega)
    · intro h
      exact ⟨h a (by omega) (by omega), fun j h1 h2 => h j (by omega) (by omega)⟩

/-- Bytes as a string. -/
def strB (us : List Value) : ByteArray := ⟨((us.map vint).map fun n => UInt8.ofNat n.toNat).toArray⟩
theorem strB_list (us : List Value) : (strB us).toList = (us.map vint).map fun n => UInt8.ofNat n.toNat := Go.ByteArray.toList_mk _

theorem u8_inj {a b : Int} (ha : IntKind.u8.has a) (hb : IntKind.u8.has b) (h : UInt8.ofNat a.toNat = UInt8.ofNat b.toNat) : a = b := by
  have ha2 : 0 ≤ a ∧ a ≤ 255 := ha
  have hb2 : 0 ≤ b ∧ b ≤ 255 := hb
  have := congrArg UInt8.toNat h
  simp only [UInt8.toNat_ofNat'] at this
  omega

theorem strB_eq {us vs : List Value} (hl : us.length = vs.length) (hu : ∀ i, i < us.length → IntKind.u8.has (vint (atC us i))) (hv : ∀ i, i < us.length → IntKind.u8.has (vint (atC vs i))) :
    ((strB us).toList == (strB vs).toList) = true ↔ ∀ i, i < us.length → vint (atC us i) = vint (atC vs i) := by
  rw [strB_list, strB_list, beq_iff_eq]
  constructor
  · intro h i hi
    refine u8_inj (hu i hi) (hv i hi) ?_
    have := congrArg (fun l : List UInt8 => l[i]?) h
    simpa [atC, hi, hl ▸ hi] using this
  · intro h
    apply List.ext_getElem (by simp [hl])
    intro i h1 h2
    simp only [List.length_map] at h1 h2
    have := h i h1
    simp only [List.getElem_map]
    have e1 : vint us[i] = vint (atC us i) := by simp [atC, h1]
    have e2 : vint vs[i] = vint (atC vs i) := by simp [atC, h2]
    rw [e1, e2, this]

end Go.Ab

namespace Go.Ab

def partV (r : Option ((Value × List AObj × List AObj) × Pins)) : Value := match r with
  | some ((v, _), _) => v
  | none => undef
def partO (r : Option ((Value × List AObj × List AObj) × Pins)) : List AObj := match r with
  | some ((_, o, _), _) => o
  | none => []
def partN (r : Option ((Value × List AObj × List AObj) × Pins)) : List AObj := match r with
  | some ((_, _, o), _) => o
  | none => []
def partP (r : Option ((Value × List AObj × List AObj) × Pins)) : Pins := match r with
  | some (_, p) => p
  | none => []

theorem parts_eq {r : Option ((Value × List AObj × List AObj) × Pins)} {v : Value} {os ns : List AObj} {p : Pins} (h : r.isSome = true) (hv : partV r = v) (ho : partO r = os) (hn : partN r = ns) (hp : partP r = p) : r = some ((v, os, ns), p) := by
  cases r with
  | none => cases h
  | some x =>
    obtain ⟨⟨a, b, c⟩, d⟩ := x
    simp only [partV, partO, partN, partP] at hv ho hn hp
    rw [hv, ho, hn, hp]

end Go.Ab

