/- Reading 256 bits into five limbs, and writing the least number that stands for the same element.
   Conditions: the limbs are in bounds; plain arithmetic. -/
import Derived.Test.YtgnbmjhljlbkhaaGFieldMul
set_option linter.unusedVariables false
namespace Go.Num
open Go.Ab

def W8 (x : Nat → Int) (f : Nat) : Int := val 256 (fun i => x (f + i)) 8

/-- As the program reads. -/
def loadI (x : Nat → Int) : List Value :=
  let m := fun a : Int => bits .and .u64 a 2251799813685247
  let o := bits .or .u64
  let w := IntKind.u64.wrap
  [.int .u64 (m (W8 x 0)), .int .u64 (m (o ((W8 x 0).fdiv (2 ^ 51)) (w (W8 x 8 * 2 ^ 13)))), .int .u64 (m (o ((W8 x 8).fdiv (2 ^ 38)) (w (W8 x 16 * 2 ^ 26)))), .int .u64 (m (o ((W8 x 16).fdiv (2 ^ 25)) (w (W8 x 24 * 2 ^ 39)))), .int .u64 ((W8 x 24).fdiv (2 ^ 12))]

/-- The limbs of a number of 256 bits. -/
def limbs (N : Int) (i : Nat) : Int := bif Nat.beq i 0 then N % 2251799813685248 else bif Nat.beq i 1 then N / 2251799813685248 % 2251799813685248 else
  bif Nat.beq i 2 then N / 5070602400912917605986812821504 % 2251799813685248 else bif Nat.beq i 3 then N / 11417981541647679048466287755595961091061972992 % 2251799813685248 else N / 25711008708143844408671393477458601640355247900524685364822016

theorem limbs_val (N : Int) : val B51 (limbs N) 5 = N := by
  rw [val5]
  have e1 : B51 = 2251799813685248 := rfl
  have e2 : B51 ^ 2 = 5070602400912917605986812821504 := by decide
  have e3 : B51 ^ 3 = 11417981541647679048466287755595961091061972992 := by decide
  have e4 : B51 ^ 4 = 25711008708143844408671393477458601640355247900524685364822016 := by decide
  rw [e2, e3, e4, e1]
  simp only [limbs, Nat.beq, cond_true, cond_false]
  omega

def Dg (B : Int) (n : Nat) (x : Nat → Int) : Prop := ∀ i, i < n → 0 ≤ x i ∧ x i < B

theorem u8_dg {x : Nat → Int} (h : ∀ i, IntKind.u8.has (x i)) (n : Nat) : Dg 256 n x := fun i _ => by have := has_u8 (h i); omega

theorem W8_range {x : Nat → Int} (h : ∀ i, IntKind.u8.has (x i)) (f : Nat) : 0 ≤ W8 x f ∧ W8 x f < 18446744073709551616 := by
  have := val_range (B := 256) (by decide) (d := fun i => x (f + i)) (n := 8) fun i _ => by have := has_u8 (h (f + i)); omega
  exact this

theorem val_W8 (x : Nat → Int) : val 256 x 32 = W8 x 0 + 18446744073709551616 * (W8 x 8 + 18446744073709551616 * (W8 x 16 + 18446744073709551616 * W8 x 24)) := by
  have e1 := val_split (B := 256) (t := x) (m := 8) (n := 24)
  have e2 := val_split (B := 256) (t := fun i => x (8 + i)) (m := 8) (n := 16)
  have e3 := val_split (B := 256) (t := fun i => x (8 + (8 + i))) (m := 8) (n := 8)
  have hB : (256 : Int) ^ 8 = 18446744073709551616 := by decide
  rw [hB] at e1 e2 e3
  have a0 : W8 x 0 = val 256 x 8 := val_congr fun i _ => by rw [Nat.zero_add]
  have a2 : (fun i => x (8 + (8 + i))) = fun i => x (16 + i) := funext fun i => by rw [← Nat.add_assoc]
  have a3 : (fun i => x (8 + (8 + (8 + i)))) = fun i => x (24 + i) := funext fun i => by rw [← Nat.add_assoc, ← Nat.add_assoc]
  rw [show 32 = 8 + 24 from rfl, e1, e2, e3, a0, a2, a3]
  rfl

theorem mask51_or {a b : Int} {k : Nat} (ha : 0 ≤ a) (hak : a < 2 ^ k) (hb : 0 ≤ b) (hb2 : b < 18446744073709551616) (hk : k ≤ 63) : bits .and .u64 (bits .or .u64 a (IntKind.u64.wrap (b * 2 ^ k))) 2251799813685247 = (a + b * 2 ^ k) % 2251799813685248 := by
  have hp : (0 : Int) < 2 ^ k := Int.pow_pos (by omega)
  have hp2 : (0 : Int) < 2 ^ (64 - k) := Int.pow_pos (by omega)
  have e64 : (2 : Int) ^ k * 2 ^ (64 - k) = 18446744073709551616 := by rw [← Int.pow_add, show k + (64 - k) = 64 by omega]; decide
  have hle : (2 : Int) ^ k ≤ 18446744073709551616 := by
    rw [← e64]
    have : (2 : Int) ^ k * 1 ≤ 2 ^ k * 2 ^ (64 - k) := Int.mul_le_mul_of_nonneg_left (by omega) (by omega)
    omega
  have e : IntKind.u64.wrap (b * 2 ^ k) = b % 2 ^ (64 - k) * 2 ^ k := by
    rw [wrap_u64, ← e64, Int.mul_comm b, Int.mul_emod_mul_of_pos _ _ hp, Int.mul_comm]
  have hr := Int.emod_nonneg b (Int.ne_of_gt hp2)
  have hr2 := Int.emod_lt_of_pos b hp2
  have hlt : b % 2 ^ (64 - k) * 2 ^ k + 2 ^ k ≤ 18446744073709551616 := by
    rw [← e64]
    have : (b % 2 ^ (64 - k) + 1) * 2 ^ k ≤ 2 ^ (64 - k) * 2 ^ k := Int.mul_le_mul_of_nonneg_right (by omega) (by omega)
    rw [Int.mul_comm (2 ^ k)]
    rw [Int.add_mul] at this
    omega
  have hge : 0 ≤ b % 2 ^ (64 - k) * 2 ^ k := Int.mul_nonneg hr (by omega)
  rw [e, or_comm64, or_add64 hr (by omega) ha hak (by omega), mask51 (by omega) (by omega)]
  have hm : b * 2 ^ k = b % 2 ^ (64 - k) * 2 ^ k + 18446744073709551616 * (b / 2 ^ (64 - k)) := by
    rw [← e64]
    have := Int.mul_ediv_add_emod b (2 ^ (64 - k))
    generalize b / 2 ^ (64 - k) = q at *
    generalize b % 2 ^ (64 - k) = r at *
    rw [← this]
    grind
  rw [hm]
  omega

theorem loadI_eq {x : Nat → Int} (h : ∀ i, IntKind.u8.has (x i)) : loadI x = cellsI .u64 5 (limbs (val 256 x 32)) := by
  have a0 := W8_range h 0; have a1 := W8_range h 8; have a2 := W8_range h 16; have a3 := W8_range h 24
  have e : cellsI .u64 5 (limbs (val 256 x 32)) = [.int .u64 (limbs (val 256 x 32) 0), .int .u64 (limbs (val 256 x 32) 1), .int .u64 (limbs (val 256 x 32) 2), .int .u64 (limbs (val 256 x 32) 3), .int .u64 (limbs (val 256 x 32) 4)] := rfl
  rw [e, val_W8]
  simp only [loadI]
  rw [Int.fdiv_eq_ediv_of_nonneg _ (show (0 : Int) ≤ 2 ^ 51 by decide), Int.fdiv_eq_ediv_of_nonneg _ (show (0 : Int) ≤ 2 ^ 38 by decide), Int.fdiv_eq_ediv_of_nonneg _ (show (0 : Int) ≤ 2 ^ 25 by decide), Int.fdiv_eq_ediv_of_nonneg _ (show (0 : Int) ≤ 2 ^ 12 by decide)]
  rw [mask51 (by omega) (by omega), mask51_or (k := 13) (by omega) (by omega) (by omega) (by omega) (by omega), mask51_or (k := 26) (by omega) (by omega) (by omega) (by omega) (by omega), mask51_or (k := 39) (by omega) (by omega) (by omega) (by omega) (by omega)]
  simp only [limbs, Nat.beq, cond_true, cond_false, Int.reducePow]
  generalize W8 x 0 = p at *
  generalize W8 x 8 = q at *
  generalize W8 x 16 = r at *
  generalize W8 x 24 = s at *
  simp only [List.cons.injEq, Value.int.injEq, true_and, and_true]
  refine ⟨?_, ?_, ?_, ?_, ?_⟩ <;> omega

theorem limbs_bd {N : Int} (h : 0 ≤ N) (h2 : N < 115792089237316195423570985008687907853269984665640564039457584007913129639936) : Bd 4503599627370496 (limbs N) := fun i hi => by
  unfold limbs
  cases Nat.beq i 0 <;> cases Nat.beq i 1 <;> cases Nat.beq i 2 <;> cases Nat.beq i 3 <;> simp only [cond_true, cond_false] <;> omega

/-- Nineteen added and carried. -/
def bI (y : Nat → Int) : Nat → Int
  | 0 => IntKind.u64.wrap (y 0 + 19)
  | i + 1 => IntKind.u64.wrap (y (i + 1) + (bI y i).fdiv (2 ^ 51))
def cB (y : Nat → Int) : Bool := (bI y 4).fdiv (2 ^ 51) != 0
def maskL (y : Nat → Int) (i : Nat) : Int := bits .and .u64 (bI y i) 2251799813685247
def oI (y : Nat → Int) (j : Nat) : Int :=
  bif Nat.beq j 0 then bits .or .u64 (y 0) (IntKind.u64.wrap (y 1 * 2 ^ 51)) else
  bif Nat.beq j 1 then bits .or .u64 ((y 1).fdiv (2 ^ 13)) (IntKind.u64.wrap (y 2 * 2 ^ 38)) else
  bif Nat.beq j 2 then bits .or .u64 ((y 2).fdiv (2 ^ 26)) (IntKind.u64.wrap (y 3 * 2 ^ 25)) else
  bits .or .u64 ((y 3).fdiv (2 ^ 39)) (IntKind.u64.wrap (y 4 * 2 ^ 12))
def outW (y : Nat → Int) : List Value := (List.range 32).map fun j => .int .u8 (IntKind.u8.wrap ((oI y (j / 8)).fdiv (2 ^ (8 * (j % 8)))))

/-- The 32 bytes of a number. -/
def bytesN (N : Int) : List Value := cellsI .u8 32 fun i => N / 256 ^ i % 256

theorem B5 : B51 ^ 5 = 57896044618658097711785492504343953926634992332820282019728792003956564819968 := by decide
theorem B51e : B51 = 2251799813685248 := rfl

/-- Nineteen more. -/
def t19 (y : Nat → Int) (i : Nat) : Int := bif Nat.beq i 0 then y 0 + 19 else y i

theorem bI_eq {y : Nat → Int} (h : Dg B51 5 y) : ∀ {i : Nat}, i < 5 → bI y i = car B51 (t19 y) i + t19 y i ∧ 0 ≤ bI y i ∧ bI y i ≤ 2251799813685300 := by
  intro i
  rw [Dg, B51e] at h
  induction i with
  | zero =>
    intro hi
    have := h 0 hi
    have e : bI y 0 = y 0 + 19 := by unfold bI; rw [wrap64_id (by omega) (by omega)]
    rw [e]
    simp only [car, t19, Nat.beq, cond_true]
    omega
  | succ i ih =>
    intro hi
    obtain ⟨h1, h2, h3⟩ := ih (by omega)
    have := h (i + 1) hi
    have e : bI y (i + 1) = y (i + 1) + bI y i / 2251799813685248 := by
      show IntKind.u64.wrap (y (i + 1) + (bI y i).fdiv (2 ^ 51)) = _
      rw [sh51, wrap64_id (by omega) (by omega)]
    have c1 : car B51 (t19 y) (i + 1) = (car B51 (t19 y) i + t19 y i) / 2251799813685248 := rfl
    have t1 : t19 y (i + 1) = y (i + 1) := rfl
    rw [e, c1, t1, ← h1]
    generalize bI y i = b at *
    omega

theorem t19_val (y : Nat → Int) : val B51 (t19 y) 5 = val B51 y 5 + 19 := by
  rw [val5, val5]
  simp only [t19, Nat.beq, cond_true, cond_false]
  omega

theorem cB_eq {y : Nat → Int} (h : Dg B51 5 y) : cB y = decide (57896044618658097711785492504343953926634992332820282019728792003956564819949 ≤ val B51 y 5) := by
  obtain ⟨h1, h2, h3⟩ := bI_eq h (i := 4) (by omega)
  have hc := (car_out (B := B51) (by decide) (t := t19 y) (n := 5)).1
  rw [t19_val, B5] at hc
  have hv := val_range (B := B51) (by decide) h
  rw [B5] at hv
  unfold cB
  rw [sh51, h1]
  have e : car B51 (t19 y) 5 = (car B51 (t19 y) 4 + t19 y 4) / 2251799813685248 := rfl
  rw [← e, hc]
  by_cases hp : 57896044618658097711785492504343953926634992332820282019728792003956564819949 ≤ val B51 y 5
  · have : (val B51 y 5 + 19) / 57896044618658097711785492504343953926634992332820282019728792003956564819968 = 1 := by omega
    rw [this, decide_eq_true hp]; rfl
  · have : (val B51 y 5 + 19) / 57896044618658097711785492504343953926634992332820282019728792003956564819968 = 0 := by omega
    rw [this, decide_eq_false hp]; rfl

theorem maskL_eq {y : Nat → Int} (h : Dg B51 5 y) : ∀ i, i < 5 → maskL y i = dig B51 (t19 y) i := fun i hi => by
  obtain ⟨h1, h2, h3⟩ := bI_eq h hi
  unfold maskL dig
  rw [mask51 h2 (by omega), h1]
  rfl

theorem maskL_dg {y : Nat → Int} (h : Dg B51 5 y) : Dg B51 5 (maskL y) := fun i hi => by
  rw [maskL_eq h i hi]; exact dig_range (by decide) _ _

theorem maskL_val {y : Nat → Int} (h : Dg B51 5 y) : val B51 (maskL y) 5 = (val B51 y 5 + 19) % 57896044618658097711785492504343953926634992332820282019728792003956564819968 := by
  rw [val_congr (maskL_eq h), (car_out (B := B51) (by decide)).2, t19_val, B5]

theorem or_shift {a b : Int} {k : Nat} (ha : 0 ≤ a) (hak : a < 2 ^ k) (ha2 : a < 18446744073709551616) (hb : 0 ≤ b) (hb2 : b % 2 ^ (64 - k) * 2 ^ k < 18446744073709551616) (e : IntKind.u64.wrap (b * 2 ^ k) = b % 2 ^ (64 - k) * 2 ^ k) :
    bits .or .u64 a (IntKind.u64.wrap (b * 2 ^ k)) = a + b % 2 ^ (64 - k) * 2 ^ k := by
  rw [e, or_comm64, or_add64 (Int.emod_nonneg _ (Int.ne_of_gt (Int.pow_pos (by omega)))) hb2 ha hak ha2, Int.add_comm]

theorem oI_eq {y : Nat → Int} (h : Dg B51 5 y) : oI y 0 = val B51 y 5 % 18446744073709551616 ∧ oI y 1 = val B51 y 5 / 18446744073709551616 % 18446744073709551616 ∧
    oI y 2 = val B51 y 5 / 340282366920938463463374607431768211456 % 18446744073709551616 ∧ oI y 3 = val B51 y 5 / 6277101735386680763835789423207666416102355444464034512896 % 18446744073709551616 := by
  rw [Dg, B51e] at h
  have h0 := h 0 (by omega); have h1 := h 1 (by omega); have h2 := h 2 (by omega); have h3 := h 3 (by omega); have h4 := h 4 (by omega)
  rw [val5]
  have e1 : B51 = 2251799813685248 := rfl
  have e2 : B51 ^ 2 = 5070602400912917605986812821504 := by decide
  have e3 : B51 ^ 3 = 11417981541647679048466287755595961091061972992 := by decide
  have e4 : B51 ^ 4 = 25711008708143844408671393477458601640355247900524685364822016 := by decide
  rw [e2, e3, e4, e1]
  simp only [oI, Nat.beq, cond_true, cond_false]
  rw [Int.fdiv_eq_ediv_of_nonneg _ (show (0 : Int) ≤ 2 ^ 13 by decide), Int.fdiv_eq_ediv_of_nonneg _ (show (0 : Int) ≤ 2 ^ 26 by decide), Int.fdiv_eq_ediv_of_nonneg _ (show (0 : Int) ≤ 2 ^ 39 by decide)]
  rw [or_shift (k := 51) (by omega) (by omega) (by omega) (by omega) (by omega) (by rw [wrap_u64]; omega), or_shift (k := 38) (by omega) (by omega) (by omega) (by omega) (by omega) (by rw [wrap_u64]; omega),
    or_shift (k := 25) (by omega) (by omega) (by omega) (by omega) (by omega) (by rw [wrap_u64]; omega), or_shift (k := 12) (by omega) (by omega) (by omega) (by omega) (by omega) (by rw [wrap_u64]; omega)]
  refine ⟨?_, ?_, ?_, ?_⟩ <;> simp only [Nat.reduceSub, Int.reducePow] <;> omega

theorem byte_of {W : Int} {b : Nat} (hb : b < 8) : IntKind.u8.wrap ((W % 18446744073709551616).fdiv (2 ^ (8 * b))) = W / 256 ^ b % 256 := by
  rw [wrap_u8, Int.fdiv_eq_ediv_of_nonneg _ (Int.le_of_lt (Int.pow_pos (by omega)))]
  rcases (by omega : b = 0 ∨ b = 1 ∨ b = 2 ∨ b = 3 ∨ b = 4 ∨ b = 5 ∨ b = 6 ∨ b = 7) with rfl | rfl | rfl | rfl | rfl | rfl | rfl | rfl <;> simp only [Nat.reduceMul, Int.reducePow] <;> omega

theorem outW_eq {y : Nat → Int} (h : Dg B51 5 y) : outW y = bytesN (val B51 y 5) := by
  obtain ⟨o0, o1, o2, o3⟩ := oI_eq h
  unfold outW bytesN cellsI
  apply List.map_congr_left
  intro j hj
  have hj := List.mem_range.1 hj
  have key : oI y (j / 8) = val B51 y 5 / 256 ^ (8 * (j / 8)) % 18446744073709551616 := by
    rcases (by omega : j / 8 = 0 ∨ j / 8 = 1 ∨ j / 8 = 2 ∨ j / 8 = 3) with e | e | e | e <;> rw [e]
    · rw [o0]; simp
    · rw [o1]; rfl
    · rw [o2]; rfl
    · rw [o3]; rfl
  rw [key, byte_of (by omega), Int.ediv_ediv_of_nonneg (Int.le_of_lt (Int.pow_pos (by decide))), ← Int.pow_add, show 8 * (j / 8) + j % 8 = j by omega]

theorem val5' (x : Nat → Int) : val B51 x 5 = x 0 + x 1 * 2251799813685248 + x 2 * 5070602400912917605986812821504 + x 3 * 11417981541647679048466287755595961091061972992 + x 4 * 25711008708143844408671393477458601640355247900524685364822016 := by
  have e2 : B51 ^ 2 = 5070602400912917605986812821504 := by decide
  have e3 : B51 ^ 3 = 11417981541647679048466287755595961091061972992 := by decide
  have e4 : B51 ^ 4 = 25711008708143844408671393477458601640355247900524685364822016 := by decide
  rw [val5, e2, e3, e4]
  rfl
theorem dig51 (x : Nat → Int) (i : Nat) : 0 ≤ dig B51 x i ∧ dig B51 x i < 2251799813685248 := dig_range (by decide) x i

/-- Carried twice, the limbs are digits. -/
theorem carE2_dg {x : Nat → Int} (h : Bd 9223372036854775807 x) : Dg B51 5 (carE (carE x)) := by
  obtain ⟨hz, hc0, hc1⟩ := carE_bd (by decide) (by decide) h
  have hd := dig51 x
  have z0 : carE x 0 = dig B51 x 0 + 19 * car B51 x 5 := rfl
  have z1 : carE x 1 = dig B51 x 1 := by simp [carE, Nat.beq]
  have z2 : carE x 2 = dig B51 x 2 := by simp [carE, Nat.beq]
  have z3 : carE x 3 = dig B51 x 3 := by simp [carE, Nat.beq]
  have z4 : carE x 4 = dig B51 x 4 := by simp [carE, Nat.beq]
  have b0 := hz 0 (by omega)
  have hv : 0 ≤ val B51 (carE x) 5 ∧ val B51 (carE x) 5 ≤ 57896044618658097711785492504343953926634992332820282019728792003956564819967 + 77900 := by
    rw [val5', z1, z2, z3, z4]
    have := hd 1; have := hd 2; have := hd 3; have := hd 4
    omega
  have hco := car_out (B := B51) (by decide) (t := carE x) (n := 5)
  rw [B5] at hco
  have hd2 := dig51 (carE x)
  intro i hi
  by_cases hi0 : i = 0
  · subst hi0
    have e : carE (carE x) 0 = dig B51 (carE x) 0 + 19 * car B51 (carE x) 5 := rfl
    have := hd2 0
    rw [e]
    by_cases hc : car B51 (carE x) 5 = 0
    · rw [hc]
      show 0 ≤ _ ∧ _ < (2251799813685248 : Int)
      omega
    · have h1 : car B51 (carE x) 5 = 1 := by omega
      have hdv : val B51 (dig B51 (carE x)) 5 ≤ 77900 := by omega
      have hle : dig B51 (carE x) 0 ≤ val B51 (dig B51 (carE x)) 5 := by
        rw [val5']
        have := hd2 1; have := hd2 2; have := hd2 3; have := hd2 4
        omega
      rw [h1]
      show 0 ≤ _ ∧ _ < (2251799813685248 : Int)
      omega
  · have e : carE (carE x) i = dig B51 (carE x) i := by
      have : Nat.beq i 0 = false := by rw [Bool.eq_false_iff]; exact fun e => hi0 (Nat.eq_of_beq_eq_true e)
      simp [carE, this]
    rw [e]
    exact hd2 i

theorem carE2_val (x : Nat → Int) : ∃ q, val B51 (carE (carE x)) 5 = val B51 x 5 + pF * q := by
  refine ⟨- car B51 x 5 - car B51 (carE x) 5, ?_⟩
  rw [carE_val, carE_val]
  grind

/-- What is written is the least number. -/
theorem out_least {x : Nat → Int} (h : Bd 9223372036854775807 x) :
    (cB (carE (carE x)) = true → cB (maskL (carE (carE x))) = false ∧ outW (maskL (carE (carE x))) = bytesN (val B51 x 5 % pF)) ∧
    (cB (carE (carE x)) = false → outW (carE (carE x)) = bytesN (val B51 x 5 % pF)) := by
  have hy := carE2_dg h
  obtain ⟨q, hq⟩ := carE2_val x
  have hv := val_range (B := B51) (by decide) hy
  rw [B5] at hv
  have hm : val B51 x 5 % pF = val B51 (carE (carE x)) 5 % pF := by rw [hq, Int.add_mul_emod_self_left]
  rw [hm]
  have hp : pF = 57896044618658097711785492504343953926634992332820282019728792003956564819949 := rfl
  rw [cB_eq hy]
  constructor
  · intro hc
    have hc := of_decide_eq_true hc
    have hmv := maskL_val hy
    have e : val B51 (maskL (carE (carE x))) 5 = val B51 (carE (carE x)) 5 % pF := by rw [hmv, hp]; omega
    refine ⟨?_, ?_⟩
    · rw [cB_eq (maskL_dg hy), e, hp]
      rw [decide_eq_false_iff_not]
      omega
    · rw [outW_eq (maskL_dg hy), e]
  · intro hc
    have hc := of_decide_eq_false hc
    rw [outW_eq hy]
    congr 1
    rw [hp]
    omega

end Go.Num
