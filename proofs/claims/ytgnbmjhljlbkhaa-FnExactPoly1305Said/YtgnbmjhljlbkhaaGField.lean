/- The field of 2^255 - 19 in five limbs of 51 bits: carrying, adding, taking off and multiplying, as numbers.
   Conditions: the limbs are in bounds, which are named; plain arithmetic. -/
import Derived.Test.YtgnbmjhljlbkhaaGArith
set_option linter.unusedVariables false
namespace Go.Num
open Go.Ab

def B51 : Int := 2251799813685248
def pF : Int := 57896044618658097711785492504343953926634992332820282019728792003956564819949
/-- The bound of a carried limb. -/
def RB : Int := 2251799813816320

/-- Carried, what leaves the top coming back nineteenfold. -/
def carE (x : Nat → Int) (i : Nat) : Int := dig B51 x i + (bif Nat.beq i 0 then 19 * car B51 x 5 else 0)

theorem val5 (B : Int) (x : Nat → Int) : val B x 5 = x 0 + x 1 * B + x 2 * B ^ 2 + x 3 * B ^ 3 + x 4 * B ^ 4 := by
  simp only [val]; grind

theorem carE_val (x : Nat → Int) : val B51 (carE x) 5 = val B51 x 5 - pF * car B51 x 5 := by
  have h := dig_val (B := B51) (t := x) (n := 5)
  have e : val B51 (carE x) 5 = val B51 (dig B51 x) 5 + 19 * car B51 x 5 := by
    rw [val5, val5]
    simp only [carE, Nat.beq, cond_true, cond_false, Int.add_zero]
    omega
  have hB : B51 ^ 5 = 57896044618658097711785492504343953926634992332820282019728792003956564819968 := by decide
  rw [hB] at h
  rw [e]
  unfold pF
  omega

def Bd (K : Int) (x : Nat → Int) : Prop := ∀ i, i < 5 → 0 ≤ x i ∧ x i ≤ K

theorem carE_bd {x : Nat → Int} {K : Int} (hK : 0 ≤ K) (hK2 : K ≤ 9223372036854775807) (h : Bd K x) : Bd (2251799813685247 + 19 * (K / 2251799813685248 + 1)) (carE x) ∧ 0 ≤ car B51 x 5 ∧ car B51 x 5 ≤ K / 2251799813685248 + 1 := by
  have hc := car_range (B := B51) (t := x) (T := K) (C := K / 2251799813685248 + 1) (n := 5) (by decide) (by omega) (by unfold B51; omega) (fun k hk => h k hk) (Nat.le_refl 5)
  refine ⟨fun i hi => ?_, hc⟩
  have hd := dig_range (B := B51) (by decide) x i
  have hB : B51 = 2251799813685248 := rfl
  unfold carE
  cases Nat.beq i 0 with
  | true => simp only [cond_true]; omega
  | false => simp only [cond_false]; omega

theorem carE_rb {x : Nat → Int} (h : Bd 9223372036854775807 x) : Bd RB (carE x) := fun i hi => by
  have := (carE_bd (by decide) (by decide) h).1 i hi
  unfold RB
  omega

theorem bd_mono {K L : Int} (hKL : K ≤ L) {x : Nat → Int} (h : Bd K x) : Bd L x := fun i hi => by have := h i hi; omega

/-- As the program carries. -/
def carryI (x : Nat → Int) : List Value :=
  let w := IntKind.u64.wrap
  let s := fun a : Int => a.fdiv (2 ^ 51)
  let m := fun a : Int => bits .and .u64 a 2251799813685247
  let b := w (x 1 + s (x 0))
  let c := w (x 2 + s b)
  let d := w (x 3 + s c)
  let e := w (x 4 + s d)
  [.int .u64 (w (m (x 0) + w (19 * s e))), .int .u64 (m b), .int .u64 (m c), .int .u64 (m d), .int .u64 (m e)]

theorem sh51 (a : Int) : a.fdiv (2 ^ 51) = a / 2251799813685248 := Int.fdiv_eq_ediv_of_nonneg _ (by decide)
theorem mask51 {a : Int} (h : 0 ≤ a) (h2 : a < 18446744073709551616) : bits .and .u64 a 2251799813685247 = a % 2251799813685248 := and_mask64 (k := 51) h h2 (by omega)
theorem wrap64_id {a : Int} (h : 0 ≤ a) (h2 : a < 18446744073709551616) : IntKind.u64.wrap a = a := by rw [wrap_u64]; omega

theorem carryI_eq {x : Nat → Int} (h : Bd 9223372036854775807 x) : carryI x = cellsI .u64 5 (carE x) := by
  have h0 := h 0 (by omega); have h1 := h 1 (by omega); have h2 := h 2 (by omega); have h3 := h 3 (by omega); have h4 := h 4 (by omega)
  have c1 : car B51 x 1 = x 0 / 2251799813685248 := by simp [car, B51]
  have c2 : car B51 x 2 = (x 1 + x 0 / 2251799813685248) / 2251799813685248 := by rw [car, c1]; unfold B51; rw [Int.add_comm]
  have c3 : car B51 x 3 = (x 2 + car B51 x 2) / 2251799813685248 := by rw [car]; unfold B51; rw [Int.add_comm]
  have c4 : car B51 x 4 = (x 3 + car B51 x 3) / 2251799813685248 := by rw [car]; unfold B51; rw [Int.add_comm]
  have c5 : car B51 x 5 = (x 4 + car B51 x 4) / 2251799813685248 := by rw [car]; unfold B51; rw [Int.add_comm]
  have b1 : IntKind.u64.wrap (x 1 + (x 0).fdiv (2 ^ 51)) = x 1 + x 0 / 2251799813685248 := by rw [sh51, wrap64_id (by omega) (by omega)]
  have b2 : IntKind.u64.wrap (x 2 + (x 1 + x 0 / 2251799813685248).fdiv (2 ^ 51)) = x 2 + car B51 x 2 := by rw [sh51, ← c2, wrap64_id (by omega) (by omega)]
  have b3 : IntKind.u64.wrap (x 3 + (x 2 + car B51 x 2).fdiv (2 ^ 51)) = x 3 + car B51 x 3 := by rw [sh51, ← c3, wrap64_id (by omega) (by omega)]
  have b4 : IntKind.u64.wrap (x 4 + (x 3 + car B51 x 3).fdiv (2 ^ 51)) = x 4 + car B51 x 4 := by rw [sh51, ← c4, wrap64_id (by omega) (by omega)]
  simp only [carryI, b1, b2, b3, b4]
  rw [sh51, ← c5, mask51 h0.1 (by omega), mask51 (by omega) (by omega), mask51 (by omega) (by omega), mask51 (by omega) (by omega), mask51 (by omega) (by omega), wrap64_id (a := 19 * car B51 x 5) (by omega) (by omega), wrap64_id (by omega) (by omega)]
  have e : cellsI .u64 5 (carE x) = [.int .u64 (carE x 0), .int .u64 (carE x 1), .int .u64 (carE x 2), .int .u64 (carE x 3), .int .u64 (carE x 4)] := rfl
  rw [e]
  simp only [carE, dig, c1, Nat.beq, cond_true, cond_false, Int.add_zero]
  rw [show car B51 x 0 = 0 from rfl]
  simp only [Int.zero_add, Int.add_comm (car B51 x _), Int.add_comm (x 0 / 2251799813685248)]
  rfl

/-- 128 bits in two words, and a product added. -/
def w2 (V : Int) : List Value := [.int .u64 (V / 18446744073709551616), .int .u64 (V % 18446744073709551616)]

def plusB (h l a b : Int) : Bool := hasB .u64 h && (hasB .u64 l && (hasB .u64 a && (hasB .u64 b && decide (h * 18446744073709551616 + l + a * b < 340282366920938463463374607431768211456))))

def plusSum (f : FuncId) : Sum :=
  { f := f, ro := true
    S := fun args os => match args, os with
      | [.agg ⟨[.int .u64 h, .int .u64 l]⟩, .int .u64 a, .int .u64 b], [] => some (.agg ⟨w2 (h * 18446744073709551616 + l + a * b)⟩, [], [])
      | _, _ => none
    C := fun args _ => match args with
      | [.agg ⟨[.int .u64 h, .int .u64 l]⟩, .int .u64 a, .int .u64 b] => [(plusB h l a b, true)]
      | _ => [] }

theorem mul_range64 {a b : Int} (ha : IntKind.u64.has a) (hb : IntKind.u64.has b) : 0 ≤ a * b ∧ a * b ≤ 340282366920938463426481119284349108225 := by
  obtain ⟨a1, a2⟩ := has_u64 ha
  obtain ⟨b1, b2⟩ := has_u64 hb
  refine ⟨Int.mul_nonneg a1 b1, ?_⟩
  have := Int.mul_le_mul a2 b2 b1 (by omega : (0 : Int) ≤ 18446744073709551615)
  simpa using this

theorem plusSum_sound {P : Program} {M : Mem} {f : FuncId} {fn : Func} (hf : P.funcs[f]? = some fn) (hn : (fn.name == "runtime.NumGoroutine") = false) (hb : fn.body.isSome = true)
    (h : ∀ h l a b : Int, Held [(hasB .u64 a && hasB .u64 b, true), (addB l (a * b % 18446744073709551616) 0, true), (addB h (a * b / 18446744073709551616) ((l + a * b % 18446744073709551616 + 0) / 18446744073709551616), true)] →
      ACalls P M f [.agg ⟨[.int .u64 h, .int .u64 l]⟩, .int .u64 a, .int .u64 b] []
      (.agg ⟨[.int .u64 ((h + a * b / 18446744073709551616 + (l + a * b % 18446744073709551616 + 0) / 18446744073709551616) % 18446744073709551616), .int .u64 ((l + a * b % 18446744073709551616 + 0) % 18446744073709551616)]⟩) [] []) : (plusSum f).SoundC P M := by
  refine sumC_sound hf hn hb fun args os v os' ns hs hp => ?_
  simp only [plusSum] at hs hp ⊢
  split at hs
  · rename_i hi lo a b
    cases hs
    have hc : plusB hi lo a b = true := hp (plusB hi lo a b, true) (List.Mem.head _)
    simp only [plusB, Bool.and_eq_true, hasB_iff, decide_eq_true_eq] at hc
    obtain ⟨h1, h2, h3, h4, h5⟩ := hc
    have hm := mul_range64 h3 h4
    have i1 := has_u64 h1
    have i2 := has_u64 h2
    have key := h hi lo a b
    generalize a * b = P at *
    have hr : ∀ n : Int, 0 ≤ n → n ≤ 18446744073709551615 → IntKind.u64.has n := fun n p q => ⟨p, q⟩
    have := key (held_cons (by simp [hasB_iff, h3, h4]) (held_cons (addB_iff.2 ⟨h2, hr _ (by omega) (by omega), by omega, by omega⟩) (held_one (addB_iff.2 ⟨h1, hr _ (by omega) (by omega), by omega, by omega⟩))))
    refine ⟨?_, fun _ => rfl⟩
    have e : w2 (hi * 18446744073709551616 + lo + P) = [.int .u64 ((hi + P / 18446744073709551616 + (lo + P % 18446744073709551616 + 0) / 18446744073709551616) % 18446744073709551616), .int .u64 ((lo + P % 18446744073709551616 + 0) % 18446744073709551616)] := by
      simp only [w2, List.cons.injEq, Value.int.injEq, true_and, and_true]
      omega
    rw [e]
    exact this
  · cases hs

end Go.Num
