/- The stamps' bytes stand in the order of the clocks.
   Conditions: the clocks are not negative and fit 64 bits. -/
import Derived.Test.YthflpgckojnbmaaTaiOf
import Derived.Test.YthflpgckojnbmaaTaiLess
open Go.Ab
set_option linter.unusedVariables false
set_option linter.unusedSimpArgs false
namespace Go.Proofs.Ythflpgckojnbmaa

/-- The last k digits of a number, to the base 256, the highest first. -/
def dg (N : Nat) : Nat → List UInt8
  | 0 => []
  | k + 1 => UInt8.ofNat (N / 256 ^ k % 256) :: dg N k

theorem u8_lt {a b : Nat} (ha : a < 256) (hb : b < 256) : (UInt8.ofNat a < UInt8.ofNat b) ↔ a < b := by
  rw [UInt8.lt_iff_toNat_lt, UInt8.toNat_ofNat_of_lt' ha, UInt8.toNat_ofNat_of_lt' hb]
theorem u8_eq {a b : Nat} (ha : a < 256) (hb : b < 256) : (UInt8.ofNat a = UInt8.ofNat b) ↔ a = b := by
  constructor
  · intro h
    have := congrArg UInt8.toNat h
    rwa [UInt8.toNat_ofNat_of_lt' ha, UInt8.toNat_ofNat_of_lt' hb] at this
  · intro h; rw [h]

theorem dg_less (N M : Nat) : ∀ k, Op.bytesLess (dg N k) (dg M k) = decide (N % 256 ^ k < M % 256 ^ k) := by
  intro k
  induction k with
  | zero => simp [dg, Op.bytesLess, Nat.mod_one]
  | succ k ih =>
    simp only [dg, Op.bytesLess, ih]
    have hN : N % 256 ^ (k + 1) = 256 ^ k * (N / 256 ^ k % 256) + N % 256 ^ k := by rw [Nat.pow_succ, Nat.mod_mul]; omega
    have hM : M % 256 ^ (k + 1) = 256 ^ k * (M / 256 ^ k % 256) + M % 256 ^ k := by rw [Nat.pow_succ, Nat.mod_mul]; omega
    have ha := Nat.mod_lt (N / 256 ^ k) (show 0 < 256 by decide)
    have hb := Nat.mod_lt (M / 256 ^ k) (show 0 < 256 by decide)
    have hp : 0 < 256 ^ k := Nat.pow_pos (by decide)
    have h1 := Nat.mod_lt N hp
    have h2 := Nat.mod_lt M hp
    rw [hN, hM]
    generalize N / 256 ^ k % 256 = a at *
    generalize M / 256 ^ k % 256 = b at *
    generalize N % 256 ^ k = r at *
    generalize M % 256 ^ k = s at *
    generalize 256 ^ k = p at *
    rw [Bool.eq_iff_iff]
    simp only [Bool.or_eq_true, Bool.and_eq_true, decide_eq_true_eq, beq_iff_eq, u8_lt ha hb, u8_eq ha hb]
    rcases Nat.lt_trichotomy a b with h | h | h
    · have : p * a + p ≤ p * b := by rw [← Nat.mul_succ]; exact Nat.mul_le_mul_left _ h
      constructor
      · intro _; omega
      · intro _; exact .inl h
    · subst h
      constructor
      · rintro (h3 | ⟨_, h3⟩)
        · omega
        · omega
      · intro h3; exact .inr ⟨rfl, by omega⟩
    · have : p * b + p ≤ p * a := by rw [← Nat.mul_succ]; exact Nat.mul_le_mul_left _ h
      constructor
      · rintro (h3 | ⟨h3, _⟩) <;> omega
      · intro h3; omega

/-- A stamp as one number. -/
def taiNum (n : Int) : Nat := ((4611686018427387914 + n / 1000000000) * 4294967296 + n % 1000000000).toNat

theorem taiRaw_digit {n : Int} (h0 : 0 ≤ n) (h1 : n ≤ 9223372036854775807) : ∀ i, i < 12 → taiRaw n i = ((taiNum n / 256 ^ (11 - i) % 256 : Nat) : Int) := by
  intro i hi
  rw [← taiSpec_eq (t := n) ⟨by show (-9223372036854775808 : Int) ≤ n; omega, h1⟩ (by rw [if_neg (by omega)]) i hi]
  unfold taiSpec
  have q1 : n.tdiv 1000000000 = n / 1000000000 := Int.tdiv_eq_ediv_of_nonneg h0
  have q2 : n.tmod 1000000000 = n % 1000000000 := Int.tmod_eq_emod_of_nonneg h0
  rw [q1, q2]
  have b1 : 0 ≤ n / 1000000000 := by omega
  have b2 : n / 1000000000 ≤ 9223372036 := by omega
  rw [wrap_i64 (n := n / 1000000000) (by omega) (by omega), wrap_i64 (n := 4611686018427387914 + n / 1000000000) (by omega) (by omega)]
  have key : ∀ (v : Int) (j : Nat), 0 ≤ v → v ≤ 9223372036854775807 → IntKind.wrap .u8 ((vdiv v j).tmod 256) = v / 256 ^ j % 256 := by
    intro v j hv hv2
    obtain ⟨e1, e2, _⟩ := vdiv_eq hv hv2 j
    rw [e1, Int.tmod_eq_emod_of_nonneg e2, wrap_u8]
    omega
  have hnum : ((taiNum n : Nat) : Int) = (4611686018427387914 + n / 1000000000) * 4294967296 + n % 1000000000 := by unfold taiNum; omega
  have cast : ∀ j : Nat, ((taiNum n / 256 ^ j % 256 : Nat) : Int) = ((4611686018427387914 + n / 1000000000) * 4294967296 + n % 1000000000) / 256 ^ j % 256 := by
    intro j
    rw [← hnum]
    simp
  rw [cast]
  by_cases h8 : i < 8
  · have hb : Nat.blt i 8 = true := by simpa [Nat.blt_eq] using h8
    rw [hb]
    show IntKind.wrap .u8 ((vdiv (4611686018427387914 + n / 1000000000) (7 - i)).tmod 256) = _
    rw [key _ _ (by omega) (by omega)]
    have e : (256 : Int) ^ (11 - i) = 4294967296 * 256 ^ (7 - i) := by
      rw [show 11 - i = 4 + (7 - i) by omega, Int.pow_add]
      rfl
    rw [e, ← Int.ediv_ediv_of_nonneg (by decide)]
    have : ((4611686018427387914 + n / 1000000000) * 4294967296 + n % 1000000000) / 4294967296 = 4611686018427387914 + n / 1000000000 := by omega
    rw [this]
  · have hb : Nat.blt i 8 = false := by
      cases h : Nat.blt i 8 with
      | false => rfl
      | true => exact absurd (by simpa [Nat.blt_eq] using h) h8
    rw [hb]
    show IntKind.wrap .u8 ((vdiv (n % 1000000000) (11 - i)).tmod 256) = _
    rw [key _ _ (by omega) (by omega)]
    have hj : 11 - i = 0 ∨ 11 - i = 1 ∨ 11 - i = 2 ∨ 11 - i = 3 := by omega
    rcases hj with hj | hj | hj | hj <;> rw [hj] <;> simp only [show (256 : Int) ^ 0 = 1 by decide, show (256 : Int) ^ 1 = 256 by decide, show (256 : Int) ^ 2 = 65536 by decide, show (256 : Int) ^ 3 = 16777216 by decide] <;> omega

theorem tai_bytes {n : Int} (h0 : 0 ≤ n) (h1 : n ≤ 9223372036854775807) : Lib.bytesOf ((List.range 12).map (taiRaw n)) = dg (taiNum n) 12 := by
  have h := taiRaw_digit h0 h1
  have e : (List.range 12).map (taiRaw n) = (List.range 12).map fun i => ((taiNum n / 256 ^ (11 - i) % 256 : Nat) : Int) := List.map_congr_left fun i hi => h i (List.mem_range.1 hi)
  rw [e]
  generalize taiNum n = N
  rfl

theorem tai_less {a b : Int} (ha : 0 ≤ a) (ha1 : a ≤ 9223372036854775807) (hb : 0 ≤ b) (hb1 : b ≤ 9223372036854775807) : Op.bytesLess (Lib.bytesOf ((List.range 12).map (taiRaw a))) (Lib.bytesOf ((List.range 12).map (taiRaw b))) = decide (a < b) := by
  rw [tai_bytes ha ha1, tai_bytes hb hb1, dg_less]
  have e : (256 : Nat) ^ 12 = 79228162514264337593543950336 := by decide
  have na : ((taiNum a : Nat) : Int) = (4611686018427387914 + a / 1000000000) * 4294967296 + a % 1000000000 := by unfold taiNum; omega
  have nb : ((taiNum b : Nat) : Int) = (4611686018427387914 + b / 1000000000) * 4294967296 + b % 1000000000 := by unfold taiNum; omega
  rw [Nat.mod_eq_of_lt (by rw [e]; omega), Nat.mod_eq_of_lt (by rw [e]; omega)]
  rw [Bool.eq_iff_iff]
  simp only [decide_eq_true_eq]
  omega

end Go.Proofs.Ythflpgckojnbmaa
