/- Bit operations on numbers of 32 and 64 bits: disjoint bits joined are a sum; a mask of low bits is a remainder.
   Conditions: none; plain arithmetic. -/
import Derived.Test.YtgnbmjhljlbkhaaGVal
import Derived.Test.YtgnbmjhljlbkhaaAbC
set_option linter.unusedVariables false
namespace Go.Num
open Go.Ab

theorem ofInt_nat {w a : Nat} (h : a < 2 ^ w) : (BitVec.ofInt w (a : Int)).toNat = a := by
  rw [BitVec.ofInt_natCast, BitVec.toNat_ofNat]; exact Nat.mod_eq_of_lt h

theorem or_nat32 {a b : Nat} (ha : a < 4294967296) (hb : b < 4294967296) : bits .or .u32 (a : Int) (b : Int) = ((a ||| b : Nat) : Int) := by
  have hx : a ||| b < 2 ^ 32 := Nat.or_lt_two_pow (by omega) (by omega)
  show IntKind.u32.wrap ((BitVec.ofInt 32 (a : Int) ||| BitVec.ofInt 32 (b : Int)).toNat : Int) = _
  rw [BitVec.toNat_or, ofInt_nat (by omega), ofInt_nat (by omega), wrap_u32]
  omega

/-- Bits above joined to bits below. -/
theorem or_add32 {a b : Int} {k : Nat} (ha : 0 ≤ a) (h : a * 2 ^ k < 4294967296) (hb : 0 ≤ b) (hk : b < 2 ^ k) (hb2 : b < 4294967296) : bits .or .u32 (a * 2 ^ k) b = a * 2 ^ k + b := by
  obtain ⟨x, rfl⟩ := Int.eq_ofNat_of_zero_le ha
  obtain ⟨y, rfl⟩ := Int.eq_ofNat_of_zero_le hb
  have e : (x : Int) * 2 ^ k = ((2 ^ k * x : Nat) : Int) := by rw [Int.natCast_mul, Int.natCast_pow, Int.mul_comm]; rfl
  have hy : y < 2 ^ k := by exact_mod_cast hk
  rw [e] at h ⊢
  rw [or_nat32 (by omega) (by omega), ← Nat.two_pow_add_eq_or_of_lt hy, Int.natCast_add]

theorem or_comm32 (a b : Int) : bits .or .u32 a b = bits .or .u32 b a := by
  show IntKind.u32.wrap ((BitVec.ofInt 32 a ||| BitVec.ofInt 32 b).toNat : Int) = IntKind.u32.wrap ((BitVec.ofInt 32 b ||| BitVec.ofInt 32 a).toNat : Int)
  rw [BitVec.or_comm]
theorem or_comm64 (a b : Int) : bits .or .u64 a b = bits .or .u64 b a := by
  show IntKind.u64.wrap ((BitVec.ofInt 64 a ||| BitVec.ofInt 64 b).toNat : Int) = IntKind.u64.wrap ((BitVec.ofInt 64 b ||| BitVec.ofInt 64 a).toNat : Int)
  rw [BitVec.or_comm]

theorem or_add64 {a b : Int} {k : Nat} (ha : 0 ≤ a) (h : a * 2 ^ k < 18446744073709551616) (hb : 0 ≤ b) (hk : b < 2 ^ k) (hb2 : b < 18446744073709551616) : bits .or .u64 (a * 2 ^ k) b = a * 2 ^ k + b := by
  obtain ⟨x, rfl⟩ := Int.eq_ofNat_of_zero_le ha
  obtain ⟨y, rfl⟩ := Int.eq_ofNat_of_zero_le hb
  have e : (x : Int) * 2 ^ k = ((2 ^ k * x : Nat) : Int) := by rw [Int.natCast_mul, Int.natCast_pow, Int.mul_comm]; rfl
  have hy : y < 2 ^ k := by exact_mod_cast hk
  rw [e] at h ⊢
  rw [bits_or_u64_nat _ _ (by omega) (by omega), ← Nat.two_pow_add_eq_or_of_lt hy, Int.natCast_add]

/-- A mask of k low bits. -/
theorem and_mask64 {a : Int} {k : Nat} (ha : 0 ≤ a) (h : a < 18446744073709551616) (hk : k ≤ 63) : bits .and .u64 a (2 ^ k - 1) = a % 2 ^ k := by
  obtain ⟨x, rfl⟩ := Int.eq_ofNat_of_zero_le ha
  have hp : (2 : Nat) ^ k ≤ 2 ^ 63 := Nat.pow_le_pow_right (by omega) hk
  have h0 : 0 < (2 : Nat) ^ k := Nat.two_pow_pos k
  have e : (2 : Int) ^ k - 1 = ((2 ^ k - 1 : Nat) : Int) := by rw [Int.natCast_sub h0, Int.natCast_pow]; rfl
  rw [e, bits_and_u64_nat _ _ (by omega) (by omega), Nat.and_two_pow_sub_one_eq_mod, Int.natCast_emod, Int.natCast_pow]
  rfl

theorem bits_range32 (op : BinOp) (a b : Int) : IntKind.u32.has (bits op .u32 a b) := by
  unfold bits
  have : ∀ n, IntKind.u32.has (IntKind.u32.wrap n) := fun n => by rw [wrap_u32]; show 0 ≤ _ ∧ _ ≤ (4294967295 : Int); omega
  exact this _

end Go.Num
