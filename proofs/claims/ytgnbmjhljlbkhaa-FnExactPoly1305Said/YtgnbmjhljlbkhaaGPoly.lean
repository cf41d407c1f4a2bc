/- The one-time authenticator in three words of 64 bits: adding, multiplying modulo 2^130 - 5, as numbers.
   Conditions: the words are in bounds; plain arithmetic. -/
import Derived.Test.YtgnbmjhljlbkhaaGField
import Derived.Test.YtgnbmjhljlbkhaaGLadder
import Derived.Test.YtgnbmjhljlbkhaaAbC
set_option linter.unusedVariables false
namespace Go.Num
open Go.Ab

def P130 : Int := 1361129467683753853853498429727072845819

/-- A number in three words. -/
def hw3 (N : Int) : List Value := [.int .u64 (N % 18446744073709551616), .int .u64 (N / 18446744073709551616 % 18446744073709551616), .int .u64 (N / 340282366920938463463374607431768211456)]
def num3 (h0 h1 h2 : Int) : Int := h0 + 18446744073709551616 * h1 + 340282366920938463463374607431768211456 * h2
def polyC (r0 r1 N : Int) : List Value := .int .u64 r0 :: .int .u64 r1 :: hw3 N

def plusOk (h0 h1 h2 low high : Int) : Bool := hasB .u64 h0 && (hasB .u64 h1 && (hasB .u64 h2 && (hasB .u64 low && (hasB .u64 high && decide (num3 h0 h1 h2 + low + 18446744073709551616 * high < 6277101735386680763835789423207666416102355444464034512896)))))

def pplusSum (f : FuncId) : Sum :=
  { f := f, ro := false
    S := fun args os => match args, os with
      | [.pointer (some ⟨0, 0, some 5⟩), .int .u64 low, .int .u64 high], [⟨[.int .u64 r0, .int .u64 r1, .int .u64 h0, .int .u64 h1, .int .u64 h2], g, e, true⟩] =>
        some (.tuple ⟨[]⟩, [⟨polyC r0 r1 (num3 h0 h1 h2 + low + 18446744073709551616 * high), g, e, true⟩], [])
      | _, _ => none
    C := fun args os => match args, os with
      | [_, .int .u64 low, .int .u64 high], [⟨[_, _, .int .u64 h0, .int .u64 h1, .int .u64 h2], _, _, _⟩] => [(plusOk h0 h1 h2 low high, true)]
      | _, _ => [] }

def plusRaw (r0 r1 h0 h1 h2 low high : Int) : List Value :=
  [.int .u64 r0, .int .u64 r1, .int .u64 ((h0 + low + 0) % 18446744073709551616), .int .u64 ((h1 + high + (h0 + low + 0) / 18446744073709551616) % 18446744073709551616),
   .int .u64 (IntKind.u64.wrap (h2 + (h1 + high + (h0 + low + 0) / 18446744073709551616) / 18446744073709551616))]
def plusPinsP (h0 h1 low high : Int) : Pins := [(addB h0 low 0, true), (addB h1 high ((h0 + low + 0) / 18446744073709551616), true)]

theorem has64 {n : Int} (h1 : 0 ≤ n) (h2 : n ≤ 18446744073709551615) : IntKind.u64.has n := ⟨h1, h2⟩

theorem pplusSum_sound {P : Program} {M : Mem} {f : FuncId} {fn : Func} (hf : P.funcs[f]? = some fn) (hn : (fn.name == "runtime.NumGoroutine") = false) (hb : fn.body.isSome = true)
    (h : ∀ (r0 r1 h0 h1 h2 low high : Int) (g : Bool) (e : Nat), Held (plusPinsP h0 h1 low high) → ACalls P M f [.pointer (some ⟨0, 0, some 5⟩), .int .u64 low, .int .u64 high] [⟨[.int .u64 r0, .int .u64 r1, .int .u64 h0, .int .u64 h1, .int .u64 h2], g, e, true⟩]
      (.tuple ⟨[]⟩) [⟨plusRaw r0 r1 h0 h1 h2 low high, g, e, true⟩] []) : (pplusSum f).SoundC P M := by
  refine sumC_sound hf hn hb fun args os v os' ns hs hp => ?_
  simp only [pplusSum] at hs hp ⊢
  split at hs
  · rename_i low high r0 r1 h0 h1 h2 g e
    cases hs
    refine ⟨?_, fun h => by cases h⟩
    have hc : plusOk h0 h1 h2 low high = true := hp (plusOk h0 h1 h2 low high, true) (List.Mem.head _)
    simp only [plusOk, Bool.and_eq_true, hasB_iff, decide_eq_true_eq] at hc
    obtain ⟨c1, c2, c3, c4, c5, c6⟩ := hc
    unfold num3 at c6
    have i1 := has_u64 c1; have i2 := has_u64 c2; have i3 := has_u64 c3; have i4 := has_u64 c4; have i5 := has_u64 c5
    have := h r0 r1 h0 h1 h2 low high g e (held_cons (addB_iff.2 ⟨c1, c4, by omega, by omega⟩) (held_one (addB_iff.2 ⟨c2, c5, by omega, by omega⟩)))
    have e : plusRaw r0 r1 h0 h1 h2 low high = polyC r0 r1 (num3 h0 h1 h2 + low + 18446744073709551616 * high) := by
      simp only [plusRaw, polyC, hw3, num3, wrap_u64, List.cons.injEq, Value.int.injEq, true_and, and_true]
      refine ⟨?_, ?_, ?_⟩ <;> omega
    rw [e] at this
    exact this
  · cases hs

/-! ### Multiplying -/
structure M4 where
  t0 : Int
  t1 : Int
  t2 : Int
  t3 : Int

/-- The four words of the product, as the program adds them. -/
def m4 (r0 r1 h0 h1 h2 : Int) : M4 :=
  let T : Int := 18446744073709551616
  let u1 := h0 * r0 / T + h1 * r0 % T + 0
  let u2 := h1 * r0 / T + h0 * r1 / T + u1 / T
  let v1 := u1 % T + h0 * r1 % T + 0
  let v2 := u2 % T + h1 * r1 % T + v1 / T
  let v3 := u2 / T + h1 * r1 / T + v2 / T
  let w2 := v2 % T + IntKind.u64.wrap (h2 * r0) + 0
  ⟨h0 * r0 % T, v1 % T, w2 % T, IntKind.u64.wrap (v3 % T + IntKind.u64.wrap (IntKind.u64.wrap (h2 * r1) + w2 / T))⟩

def m4Pins (r0 r1 h0 h1 h2 : Int) : Pins :=
  let T : Int := 18446744073709551616
  let u1 := h0 * r0 / T + h1 * r0 % T + 0
  let u2 := h1 * r0 / T + h0 * r1 / T + u1 / T
  let v1 := u1 % T + h0 * r1 % T + 0
  let v2 := u2 % T + h1 * r1 % T + v1 / T
  let v3 := u2 / T + h1 * r1 / T + v2 / T
  let w2 := v2 % T + IntKind.u64.wrap (h2 * r0) + 0
  [(hasB .u64 h0 && hasB .u64 r0, true), (hasB .u64 h1 && hasB .u64 r0, true), (hasB .u64 h0 && hasB .u64 r1, true), (hasB .u64 h1 && hasB .u64 r1, true),
   (addB (h0 * r0 / T) (h1 * r0 % T) 0, true), (addB (h1 * r0 / T) (h0 * r1 / T) (u1 / T), true), (addB (u1 % T) (h0 * r1 % T) 0, true), (addB (u2 % T) (h1 * r1 % T) (v1 / T), true), (addB (u2 / T) (h1 * r1 / T) (v2 / T), true), (addB (v2 % T) (IntKind.u64.wrap (h2 * r0)) 0, true)]

def polyOk (r0 r1 h0 h1 h2 : Int) : Bool := decide (0 ≤ r0 ∧ r0 < 1152921504606846976) && (decide (0 ≤ r1 ∧ r1 < 1152921504606846976) && (hasB .u64 h0 && (hasB .u64 h1 && decide (0 ≤ h2 ∧ h2 ≤ 7))))
theorem polyOk_iff {r0 r1 h0 h1 h2 : Int} : polyOk r0 r1 h0 h1 h2 = true ↔ (0 ≤ r0 ∧ r0 < 1152921504606846976) ∧ (0 ≤ r1 ∧ r1 < 1152921504606846976) ∧ IntKind.u64.has h0 ∧ IntKind.u64.has h1 ∧ 0 ≤ h2 ∧ h2 ≤ 7 := by
  simp [polyOk, hasB_iff]

theorem m4_ok {r0 r1 h0 h1 h2 : Int} (h : polyOk r0 r1 h0 h1 h2 = true) : Held (m4Pins r0 r1 h0 h1 h2) ∧
    (m4 r0 r1 h0 h1 h2).t0 = num3 h0 h1 h2 * (r0 + 18446744073709551616 * r1) % 18446744073709551616 ∧
    (m4 r0 r1 h0 h1 h2).t1 = num3 h0 h1 h2 * (r0 + 18446744073709551616 * r1) / 18446744073709551616 % 18446744073709551616 ∧
    (m4 r0 r1 h0 h1 h2).t2 = num3 h0 h1 h2 * (r0 + 18446744073709551616 * r1) / 340282366920938463463374607431768211456 % 18446744073709551616 ∧
    (m4 r0 r1 h0 h1 h2).t3 = num3 h0 h1 h2 * (r0 + 18446744073709551616 * r1) / 6277101735386680763835789423207666416102355444464034512896 ∧
    0 ≤ num3 h0 h1 h2 * (r0 + 18446744073709551616 * r1) ∧ num3 h0 h1 h2 * (r0 + 18446744073709551616 * r1) < 57896044618658097711785492504343953926634992332820282019728792003956564819968 := by
  obtain ⟨⟨a1, a2⟩, ⟨b1, b2⟩, c, d, e1, e2⟩ := polyOk_iff.1 h
  obtain ⟨c1, c2⟩ := has_u64 c
  obtain ⟨d1, d2⟩ := has_u64 d
  have p00 : 0 ≤ h0 * r0 ∧ h0 * r0 ≤ 18446744073709551615 * 1152921504606846975 := ⟨Int.mul_nonneg c1 a1, Int.mul_le_mul c2 (by omega) a1 (by omega)⟩
  have p10 : 0 ≤ h1 * r0 ∧ h1 * r0 ≤ 18446744073709551615 * 1152921504606846975 := ⟨Int.mul_nonneg d1 a1, Int.mul_le_mul d2 (by omega) a1 (by omega)⟩
  have p01 : 0 ≤ h0 * r1 ∧ h0 * r1 ≤ 18446744073709551615 * 1152921504606846975 := ⟨Int.mul_nonneg c1 b1, Int.mul_le_mul c2 (by omega) b1 (by omega)⟩
  have p11 : 0 ≤ h1 * r1 ∧ h1 * r1 ≤ 18446744073709551615 * 1152921504606846975 := ⟨Int.mul_nonneg d1 b1, Int.mul_le_mul d2 (by omega) b1 (by omega)⟩
  have p20 : 0 ≤ h2 * r0 ∧ h2 * r0 ≤ 7 * 1152921504606846975 := ⟨Int.mul_nonneg e1 a1, Int.mul_le_mul e2 (by omega) a1 (by omega)⟩
  have p21 : 0 ≤ h2 * r1 ∧ h2 * r1 ≤ 7 * 1152921504606846975 := ⟨Int.mul_nonneg e1 b1, Int.mul_le_mul e2 (by omega) b1 (by omega)⟩
  have w20 : IntKind.u64.wrap (h2 * r0) = h2 * r0 := by rw [wrap_u64]; omega
  have w21 : IntKind.u64.wrap (h2 * r1) = h2 * r1 := by rw [wrap_u64]; omega
  have eX : num3 h0 h1 h2 * (r0 + 18446744073709551616 * r1) = h0 * r0 + 18446744073709551616 * (h1 * r0 + h0 * r1) + 340282366920938463463374607431768211456 * (h1 * r1 + h2 * r0) + 6277101735386680763835789423207666416102355444464034512896 * (h2 * r1) := by
    unfold num3; grind
  rw [eX]
  simp only [m4, m4Pins, w20, w21]
  have hr0 : IntKind.u64.has r0 := has64 a1 (by omega)
  have hr1 : IntKind.u64.has r1 := has64 b1 (by omega)
  generalize h0 * r0 = A at *
  generalize h1 * r0 = B at *
  generalize h0 * r1 = C at *
  generalize h1 * r1 = D at *
  generalize h2 * r0 = E at *
  generalize h2 * r1 = F at *
  clear eX h w20 w21
  have hb : ∀ x y, IntKind.u64.has x → IntKind.u64.has y → (hasB .u64 x && hasB .u64 y) = true := fun x y hx hy => by rw [hasB_iff.2 hx, hasB_iff.2 hy]; rfl
  -- names for the sums on the way
  generalize hu1 : A / 18446744073709551616 + B % 18446744073709551616 + 0 = u1
  have bu1 : 0 ≤ u1 ∧ u1 < 2 * 18446744073709551616 := by omega
  generalize hu2 : B / 18446744073709551616 + C / 18446744073709551616 + u1 / 18446744073709551616 = u2
  have bu2 : 0 ≤ u2 ∧ u2 < 2 * 18446744073709551616 := by omega
  generalize hv1 : u1 % 18446744073709551616 + C % 18446744073709551616 + 0 = v1
  have bv1 : 0 ≤ v1 ∧ v1 < 2 * 18446744073709551616 := by omega
  generalize hv2 : u2 % 18446744073709551616 + D % 18446744073709551616 + v1 / 18446744073709551616 = v2
  have bv2 : 0 ≤ v2 ∧ v2 < 2 * 18446744073709551616 := by omega
  generalize hv3 : u2 / 18446744073709551616 + D / 18446744073709551616 + v2 / 18446744073709551616 = v3
  have bv3 : 0 ≤ v3 ∧ v3 ≤ 1152921504606846979 := by omega
  generalize hw2 : v2 % 18446744073709551616 + E + 0 = w2
  have bw2 : 0 ≤ w2 ∧ w2 < 2 * 18446744073709551616 := by omega
  have wF : IntKind.u64.wrap (F + w2 / 18446744073709551616) = F + w2 / 18446744073709551616 := by rw [wrap_u64]; omega
  have wV : IntKind.u64.wrap (v3 % 18446744073709551616 + (F + w2 / 18446744073709551616)) = v3 + F + w2 / 18446744073709551616 := by rw [wrap_u64]; omega
  rw [wF, wV]
  refine ⟨?_, ?_⟩
  · refine held_cons (hb _ _ c hr0) (held_cons (hb _ _ d hr0) (held_cons (hb _ _ c hr1) (held_cons (hb _ _ d hr1) (held_cons ?_ (held_cons ?_ (held_cons ?_ (held_cons ?_ (held_cons ?_ (held_one ?_)))))))))
    all_goals exact addB_iff.2 ⟨has64 (by omega) (by omega), has64 (by omega) (by omega), by omega, by omega⟩
  · have key : A + 18446744073709551616 * (B + C) + 340282366920938463463374607431768211456 * (D + E) + 6277101735386680763835789423207666416102355444464034512896 * F =
        A % 18446744073709551616 + 18446744073709551616 * (v1 % 18446744073709551616) + 340282366920938463463374607431768211456 * (w2 % 18446744073709551616) + 6277101735386680763835789423207666416102355444464034512896 * (v3 + F + w2 / 18446744073709551616) := by omega
    rw [key]
    generalize A % 18446744073709551616 = z0 at *
    have hz0 : 0 ≤ z0 ∧ z0 < 18446744073709551616 := by omega
    have hz1 : 0 ≤ v1 % 18446744073709551616 ∧ v1 % 18446744073709551616 < 18446744073709551616 := by omega
    have hz2 : 0 ≤ w2 % 18446744073709551616 ∧ w2 % 18446744073709551616 < 18446744073709551616 := by omega
    have hz3 : 0 ≤ v3 + F + w2 / 18446744073709551616 ∧ v3 + F + w2 / 18446744073709551616 < 9223372036854775808 := by omega
    generalize v1 % 18446744073709551616 = z1 at *
    generalize w2 % 18446744073709551616 = z2 at *
    generalize v3 + F + w2 / 18446744073709551616 = z3 at *
    clear key
    refine ⟨?_, ?_, ?_, ?_, ?_, ?_⟩ <;> omega

/-! ### Modulo 2^130 - 5 -/
/-- The product, once folded. -/
def foldP (X : Int) : Int := X % 1361129467683753853853498429727072845824 + 5 * (X / 1361129467683753853853498429727072845824)

theorem foldP_mod (X : Int) : foldP X % P130 = X % P130 := by
  have e : X = foldP X + P130 * (X / 1361129467683753853853498429727072845824) := by unfold foldP P130; omega
  conv => rhs; rw [e]
  rw [Int.add_mul_emod_self_left]

theorem foldP_lt {X : Int} (h : 0 ≤ X) (h2 : X < 57896044618658097711785492504343953926634992332820282019728792003956564819968) : 0 ≤ foldP X ∧ foldP X < 1361129467683753853853498429727072845824 + 340282366920938463463374607431768211456 := by
  unfold foldP; omega

def andNot3 (x : Int) : Int := bits .andNot .u64 x 3

theorem and3 {x : Int} (h : 0 ≤ x) (h2 : x < 18446744073709551616) : bits .and .u64 x 3 = x % 4 := and_mask64 (k := 2) h h2 (by omega)

theorem andNot3_eq {x : Int} (h : 0 ≤ x) (h2 : x < 18446744073709551616) : andNot3 x = x / 4 * 4 := by
  obtain ⟨n, rfl⟩ := Int.eq_ofNat_of_zero_le h
  have hn : n < 2 ^ 64 := by omega
  unfold andNot3
  show IntKind.u64.wrap ((BitVec.ofInt 64 (n : Int) &&& ~~~ BitVec.ofInt 64 3).toNat : Int) = _
  have hm : ∀ i : Fin 64, Nat.testBit 18446744073709551612 i.val = decide (2 ≤ i.val) := by decide +kernel
  have e : (BitVec.ofInt 64 (n : Int) &&& ~~~ BitVec.ofInt 64 3).toNat = n / 4 * 4 := by
    rw [BitVec.toNat_and, ofInt_nat hn, show (~~~ BitVec.ofInt 64 3).toNat = 18446744073709551612 from rfl]
    apply Nat.eq_of_testBit_eq
    intro i
    have e4 : n / 4 * 4 = (n >>> 2) <<< 2 := by rw [Nat.shiftRight_eq_div_pow, Nat.shiftLeft_eq]
    rw [e4, Nat.testBit_and, Nat.testBit_shiftLeft, Nat.testBit_shiftRight]
    by_cases hi : i < 64
    · rw [hm ⟨i, hi⟩]
      by_cases h2 : 2 ≤ i
      · have e5 : 2 + (i - 2) = i := by omega
        simp [h2, e5]
      · simp [h2]
    · have h1 : n.testBit i = false := Nat.testBit_lt_two_pow (by have : 2 ^ 64 ≤ 2 ^ i := Nat.pow_le_pow_right (by omega) (by omega); omega)
      have e5 : 2 + (i - 2) = i := by omega
      simp [h1, e5]
  rw [e, wrap_u64]
  omega

end Go.Num
