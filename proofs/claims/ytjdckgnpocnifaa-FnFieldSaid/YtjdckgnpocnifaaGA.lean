/- Plain laws over numbers and lists, and contracts that any seat can use.
   Conditions: named in each. -/
import Derived.Test.YtjdckgnpocnifaaAbC
import Derived.Laws.Bits64b
import Derived.Laws.MathBits
import Derived.Laws.Externs
import Derived.KernelRfl
set_option linter.unusedVariables false
set_option linter.unusedSimpArgs false
namespace Go.Num

/-- The number that the first n digits make. -/
def val (B : Int) (t : Nat → Int) : Nat → Int
  | 0 => 0
  | n + 1 => val B t n + t n * B ^ n

theorem val_congr {B : Int} {s t : Nat → Int} : ∀ {n : Nat}, (∀ i, i < n → s i = t i) → val B s n = val B t n := by
  intro n
  induction n with
  | zero => intro _; rfl
  | succ n ih => intro h; simp only [val]; rw [ih fun i hi => h i (by omega), h n (by omega)]

theorem val_add {B : Int} {s t : Nat → Int} : ∀ {n : Nat}, val B (fun i => s i + t i) n = val B s n + val B t n := by
  intro n
  induction n with
  | zero => rfl
  | succ n ih => simp only [val]; rw [ih]; grind

theorem val_smul {B c : Int} {t : Nat → Int} : ∀ {n : Nat}, val B (fun i => c * t i) n = c * val B t n := by
  intro n
  induction n with
  | zero => simp [val]
  | succ n ih => simp only [val]; rw [ih]; grind

/-- The digits from m on. -/
theorem val_split {B : Int} {t : Nat → Int} {m : Nat} : ∀ {n : Nat}, val B t (m + n) = val B t m + B ^ m * val B (fun i => t (m + i)) n := by
  intro n
  induction n with
  | zero => simp [val]
  | succ n ih =>
    rw [← Nat.add_assoc]
    simp only [val]
    rw [ih, Int.pow_add]
    grind

def upd (t : Nat → Int) (k : Nat) (v : Int) : Nat → Int := fun i => bif Nat.beq i k then v else t i

theorem upd_self (t : Nat → Int) (k : Nat) (v : Int) : upd t k v k = v := by simp [upd]
theorem upd_ne {t : Nat → Int} {k : Nat} {v : Int} {i : Nat} (h : i ≠ k) : upd t k v i = t i := by
  have : Nat.beq i k = false := by rw [Bool.eq_false_iff]; exact fun e => h (Nat.eq_of_beq_eq_true e)
  simp [upd, this]

theorem val_upd {B : Int} {t : Nat → Int} {k : Nat} {v : Int} : ∀ {n : Nat}, k < n → val B (upd t k v) n = val B t n + (v - t k) * B ^ k := by
  intro n
  induction n with
  | zero => intro h; omega
  | succ n ih =>
    intro h
    simp only [val]
    by_cases hk : k = n
    · subst hk
      rw [upd_self, val_congr (s := upd t k v) (t := t) fun i hi => upd_ne (by omega)]
      grind
    · rw [ih (by omega), upd_ne (by omega)]
      grind

/-- One row of a product, added. -/
def convI (w : Int → Int) (x y : Nat → Int) (i : Nat) : Nat → (Nat → Int) → (Nat → Int)
  | 0, t => t
  | j + 1, t => upd (convI w x y i j t) (i + j) (w (convI w x y i j t (i + j) + w (x i * y j)))
def convO (w : Int → Int) (x y : Nat → Int) (n : Nat) : Nat → (Nat → Int)
  | 0 => fun _ => 0
  | i + 1 => convI w x y i n (convO w x y n i)

theorem convI_val {B : Int} {x y : Nat → Int} {i N : Nat} : ∀ {j : Nat} {t : Nat → Int}, i + j ≤ N → val B (convI id x y i j t) N = val B t N + x i * B ^ i * val B y j := by
  intro j
  induction j with
  | zero => intro t _; simp [convI, val]
  | succ j ih =>
    intro t h
    simp only [convI, val, id]
    rw [val_upd (by omega), ih (by omega), Int.pow_add]
    grind

theorem val_zero {B : Int} (k : Nat) : val B (fun _ => 0) k = 0 := by
  induction k with
  | zero => rfl
  | succ k ih => simp [val, ih]

theorem convO_val {B : Int} {x y : Nat → Int} {n N : Nat} : ∀ {m : Nat}, m + n ≤ N + 1 → val B (convO id x y n m) N = val B x m * val B y n := by
  intro m
  induction m with
  | zero => intro _; simp [convO, val, val_zero]
  | succ m ih =>
    intro h
    simp only [convO, val]
    rw [convI_val (by omega), ih (by omega)]
    grind

/-- Digits in bounds: no sum leaves its bound, so that wrapping changes nothing. -/
theorem convI_le {w : Int → Int} {x y : Nat → Int} {n i : Nat} {Q T : Int} (hq : ∀ j, j < n → 0 ≤ x i * y j ∧ x i * y j ≤ Q) (hQ : 0 ≤ Q) (hT : 0 ≤ T) (hw : ∀ a, 0 ≤ a → a ≤ T + Q → w a = a) :
    ∀ {j : Nat} {t : Nat → Int}, j ≤ n → (∀ k, 0 ≤ t k ∧ t k ≤ T) → convI w x y i j t = convI id x y i j t ∧ (∀ k, 0 ≤ convI id x y i j t k ∧ convI id x y i j t k ≤ T + Q ∧ (i + j ≤ k → convI id x y i j t k ≤ T)) := by
  intro j
  induction j with
  | zero =>
    intro t _ ht
    refine ⟨rfl, fun k => ?_⟩
    have := ht k
    simp only [convI]
    exact ⟨this.1, by omega, fun _ => this.2⟩
  | succ j ih =>
    intro t hj ht
    obtain ⟨h1, h2⟩ := ih (by omega) ht
    have hp := hq j (by omega)
    have hs := h2 (i + j)
    have hs3 := hs.2.2 (Nat.le_refl _)
    simp only [convI, h1, id]
    rw [hw (x i * y j) hp.1 (by omega), hw _ (by omega) (by omega)]
    refine ⟨rfl, fun k => ?_⟩
    by_cases hk : k = i + j
    · subst hk
      rw [upd_self]
      exact ⟨by omega, by omega, fun h => by omega⟩
    · rw [upd_ne hk]
      have := h2 k
      exact ⟨this.1, this.2.1, fun h => this.2.2 (by omega)⟩

theorem convO_le {w : Int → Int} {x y : Nat → Int} {n : Nat} {Q : Int} {M : Nat} (hq : ∀ i j, i < M → j < n → 0 ≤ x i * y j ∧ x i * y j ≤ Q) (hQ : 0 ≤ Q) (hw : ∀ a, 0 ≤ a → a ≤ M * Q → w a = a) :
    ∀ {m : Nat}, m ≤ M → convO w x y n m = convO id x y n m ∧ ∀ k, 0 ≤ convO id x y n m k ∧ convO id x y n m k ≤ m * Q := by
  intro m
  induction m with
  | zero => intro _; exact ⟨rfl, fun k => by simp [convO]⟩
  | succ m ih =>
    intro hm
    obtain ⟨h1, h2⟩ := ih (by omega)
    have e : ((m + 1 : Nat) : Int) * Q = m * Q + Q := by rw [Int.natCast_add, Int.add_mul]; simp
    have hmQ : 0 ≤ (m : Int) * Q := Int.mul_nonneg (by omega) hQ
    have hle : (m : Int) * Q + Q ≤ M * Q := by rw [← e]; exact Int.mul_le_mul_of_nonneg_right (by omega) hQ
    obtain ⟨h3, h4⟩ := convI_le (w := w) (i := m) (fun j hj => hq m j (by omega) hj) hQ hmQ (fun a ha hb => hw a ha (by omega)) (Nat.le_refl n) h2
    simp only [convO, h1, h3]
    refine ⟨trivial, fun k => ?_⟩
    have := h4 k
    rw [e]
    exact ⟨this.1, this.2.1⟩

/-- The carry into digit k. -/
def car (B : Int) (t : Nat → Int) : Nat → Int
  | 0 => 0
  | k + 1 => (car B t k + t k) / B

def dig (B : Int) (t : Nat → Int) (k : Nat) : Int := (car B t k + t k) % B

theorem dig_range {B : Int} (hB : 0 < B) (t : Nat → Int) (k : Nat) : 0 ≤ dig B t k ∧ dig B t k < B := ⟨Int.emod_nonneg _ (by omega), Int.emod_lt_of_pos _ hB⟩

theorem dig_val {B : Int} {t : Nat → Int} : ∀ {n : Nat}, val B (dig B t) n + car B t n * B ^ n = val B t n := by
  intro n
  induction n with
  | zero => simp [val, car]
  | succ n ih =>
    simp only [val, car, dig]
    have e : car B t n + t n = B * ((car B t n + t n) / B) + (car B t n + t n) % B := (Int.mul_ediv_add_emod _ _).symm
    have : t n = B * ((car B t n + t n) / B) + (car B t n + t n) % B - car B t n := by omega
    rw [← ih, Int.pow_succ]
    generalize (car B t n + t n) / B = c at *
    generalize (car B t n + t n) % B = d at *
    rw [this]
    grind

theorem car_range {B : Int} {t : Nat → Int} {T C : Int} (hB : 0 < B) (hC : 0 ≤ C) (hCT : C + T < B * (C + 1)) {n : Nat} (ht : ∀ k, k < n → 0 ≤ t k ∧ t k ≤ T) : ∀ {k : Nat}, k ≤ n → 0 ≤ car B t k ∧ car B t k ≤ C := by
  intro k
  induction k with
  | zero => intro _; exact ⟨Int.le_refl 0, hC⟩
  | succ k ih =>
    intro hk
    obtain ⟨h1, h2⟩ := ih (by omega)
    have h3 := ht k (by omega)
    simp only [car]
    refine ⟨Int.ediv_nonneg (by omega) (by omega), ?_⟩
    have : (car B t k + t k) / B < C + 1 := Int.ediv_lt_of_lt_mul hB (by rw [Int.mul_comm]; omega)
    omega

theorem val_range {B : Int} (hB : 0 < B) {d : Nat → Int} : ∀ {n : Nat}, (∀ i, i < n → 0 ≤ d i ∧ d i < B) → 0 ≤ val B d n ∧ val B d n < B ^ n := by
  intro n
  induction n with
  | zero => intro _; simp [val]
  | succ n ih =>
    intro h
    obtain ⟨h1, h2⟩ := ih fun i hi => h i (by omega)
    obtain ⟨h3, h4⟩ := h n (by omega)
    simp only [val]
    have hp : 0 < B ^ n := Int.pow_pos hB
    refine ⟨Int.add_nonneg h1 (Int.mul_nonneg h3 (by omega)), ?_⟩
    have : d n * B ^ n ≤ (B - 1) * B ^ n := Int.mul_le_mul_of_nonneg_right (by omega) (by omega)
    rw [Int.pow_succ]
    have e : (B - 1) * B ^ n = B ^ n * B - B ^ n := by grind
    omega

theorem val_div {B : Int} (hB : 0 < B) {d : Nat → Int} {k m : Nat} (h : ∀ i, i < k → 0 ≤ d i ∧ d i < B) : val B d (k + m) / B ^ k = val B (fun i => d (k + i)) m := by
  obtain ⟨h1, h2⟩ := val_range hB h
  have hp : 0 < B ^ k := Int.pow_pos hB
  rw [val_split, Int.add_mul_ediv_left _ _ (by omega), Int.ediv_eq_zero_of_lt h1 h2, Int.zero_add]

theorem val_mod {B : Int} (hB : 0 < B) {d : Nat → Int} {k m : Nat} (h : ∀ i, i < k → 0 ≤ d i ∧ d i < B) : val B d (k + m) % B ^ k = val B d k := by
  obtain ⟨h1, h2⟩ := val_range hB h
  rw [val_split, Int.add_mul_emod_self_left, Int.emod_eq_of_lt h1 h2]

/-- A digit out of the number. -/
theorem val_digit {B : Int} (hB : 0 < B) {d : Nat → Int} {k n : Nat} (hk : k < n) (h : ∀ i, i < n → 0 ≤ d i ∧ d i < B) : d k = val B d n / B ^ k % B := by
  have e : n = k + (1 + (n - k - 1)) := by omega
  rw [e, val_div hB fun i hi => h i (by omega)]
  have h1 : ∀ i, i < 1 → 0 ≤ d (k + i) ∧ d (k + i) < B := fun i hi => h _ (by omega)
  have := val_mod hB (d := fun i => d (k + i)) (k := 1) (m := n - k - 1) h1
  rw [Int.pow_succ, Int.pow_zero, Int.one_mul] at this
  rw [this]
  simp [val]

theorem val_inj {B : Int} (hB : 0 < B) {d e : Nat → Int} {n : Nat} (hd : ∀ i, i < n → 0 ≤ d i ∧ d i < B) (he : ∀ i, i < n → 0 ≤ e i ∧ e i < B) (h : val B d n = val B e n) : ∀ i, i < n → d i = e i := fun i hi => by
  rw [val_digit hB hi hd, val_digit hB hi he, h]

/-- Carried through, a number that n digits can hold keeps its value. -/
theorem car_out {B : Int} (hB : 0 < B) {t : Nat → Int} {n : Nat} : car B t n = val B t n / B ^ n ∧ val B (dig B t) n = val B t n % B ^ n := by
  have h := dig_val (B := B) (t := t) (n := n)
  obtain ⟨h1, h2⟩ := val_range hB (d := dig B t) (n := n) fun i _ => dig_range hB t i
  have hp : 0 < B ^ n := Int.pow_pos hB
  rw [← h, Int.add_mul_ediv_right _ _ (by omega), Int.ediv_eq_zero_of_lt h1 h2, Int.add_mul_emod_self_right, Int.emod_eq_of_lt h1 h2]
  simp

end Go.Num

namespace Go.Num
open Go.Ab

theorem ofInt_nat {w a : Nat} (h : a < 2 ^ w) : (BitVec.ofInt w (a : Int)).toNat = a := by
  rw [BitVec.ofInt_natCast, BitVec.toNat_ofNat]; exact Nat.mod_eq_of_lt h

theorem or_nat32 {a b : Nat} (ha : a < 4294967296) (hb : b < 4294967296) : bits .or .u32 (a : Int) (b : Int) = ((a ||| b : Nat) : Int) := by
  have hx : a ||| b < 2 ^ 32 := Nat.or_lt_two_pow (by omega) (by omega)
  show IntKind.u32.wrap ((BitVec.ofInt 32 (a : Int) ||| BitVec.ofInt 32 (b : Int)).toNat : Int) = _
  rw [BitVec.toNat_or, ofInt_nat (by omega), ofInt_nat (by omega), wrap_u32]
  omega

/-- Bits above joined to bits below. -/
theorem or_add32 {a b : Int} {k : Nat} (ha : 0 ≤ a) (h : a * 2 ^ k < 4294967296) (hb : 0 ≤ b) (hk : b < 2 ^ k) (hb2 : b < 4294967296) : bits .or .u32 (a * 2 ^ k) b = a * 2 ^ k + b := by
  obtain ⟨x, rfl⟩ := Int.eq_ofNat_of_zero_le ha
  obtain ⟨y, rfl⟩ := Int.eq_ofNat_of_zero_le hb
  have e : (x : Int) * 2 ^ k = ((2 ^ k * x : Nat) : Int) := by rw [Int.natCast_mul, Int.natCast_pow, Int.mul_comm]; rfl
  have hy : y < 2 ^ k := by exact_mod_cast hk
  rw [e] at h ⊢
  rw [or_nat32 (by omega) (by omega), ← Nat.two_pow_add_eq_or_of_lt hy, Int.natCast_add]

theorem or_comm32 (a b : Int) : bits .or .u32 a b = bits .or .u32 b a := by
  show IntKind.u32.wrap ((BitVec.ofInt 32 a ||| BitVec.ofInt 32 b).toNat : Int) = IntKind.u32.wrap ((BitVec.ofInt 32 b ||| BitVec.ofInt 32 a).toNat : Int)
  rw [BitVec.or_comm]
theorem or_comm64 (a b : Int) : bits .or .u64 a b = bits .or .u64 b a := by
  show IntKind.u64.wrap ((BitVec.ofInt 64 a ||| BitVec.ofInt 64 b).toNat : Int) = IntKind.u64.wrap ((BitVec.ofInt 64 b ||| BitVec.ofInt 64 a).toNat : Int)
  rw [BitVec.or_comm]

theorem or_add64 {a b : Int} {k : Nat} (ha : 0 ≤ a) (h : a * 2 ^ k < 18446744073709551616) (hb : 0 ≤ b) (hk : b < 2 ^ k) (hb2 : b < 18446744073709551616) : bits .or .u64 (a * 2 ^ k) b = a * 2 ^ k + b := by
  obtain ⟨x, rfl⟩ := Int.eq_ofNat_of_zero_le ha
  obtain ⟨y, rfl⟩ := Int.eq_ofNat_of_zero_le hb
  have e : (x : Int) * 2 ^ k = ((2 ^ k * x : Nat) : Int) := by rw [Int.natCast_mul, Int.natCast_pow, Int.mul_comm]; rfl
  have hy : y < 2 ^ k := by exact_mod_cast hk
  rw [e] at h ⊢
  rw [bits_or_u64_nat _ _ (by omega) (by omega), ← Nat.two_pow_add_eq_or_of_lt hy, Int.natCast_add]

/-- A mask of k low bits. -/
theorem and_mask64 {a : Int} {k : Nat} (ha : 0 ≤ a) (h : a < 18446744073709551616) (hk : k ≤ 63) : bits .and .u64 a (2 ^ k - 1) = a % 2 ^ k := by
  obtain ⟨x, rfl⟩ := Int.eq_ofNat_of_zero_le ha
  have hp : (2 : Nat) ^ k ≤ 2 ^ 63 := Nat.pow_le_pow_right (by omega) hk
  have h0 : 0 < (2 : Nat) ^ k := Nat.two_pow_pos k
  have e : (2 : Int) ^ k - 1 = ((2 ^ k - 1 : Nat) : Int) := by rw [Int.natCast_sub h0, Int.natCast_pow]; rfl
  rw [e, bits_and_u64_nat _ _ (by omega) (by omega), Nat.and_two_pow_sub_one_eq_mod, Int.natCast_emod, Int.natCast_pow]
  rfl

theorem bits_range32 (op : BinOp) (a b : Int) : IntKind.u32.has (bits op .u32 a b) := by
  unfold bits
  have : ∀ n, IntKind.u32.has (IntKind.u32.wrap n) := fun n => by rw [wrap_u32]; show 0 ≤ _ ∧ _ ≤ (4294967295 : Int); omega
  exact this _

end Go.Num

namespace Go.Num
open Go.Ab

def add32 (a b : Int) : Int := IntKind.wrap .u32 (a + b)
def xor32 (a b : Int) : Int := bits .xor .u32 a b
/-- Turned left by k. -/
def rot32 (k : Nat) (x : Int) : Int := x % 2 ^ (32 - k) * 2 ^ k + x / 2 ^ (32 - k)

theorem xor32_range (a b : Int) : IntKind.u32.has (xor32 a b) := bits_range32 _ _ _
theorem add32_range (a b : Int) : IntKind.u32.has (add32 a b) := by rw [add32, wrap_u32]; show 0 ≤ _ ∧ _ ≤ (4294967295 : Int); omega

/-- As the library's text turns. -/
def rotI (k : Nat) (x : Int) : Int := bits .or .u32 (IntKind.wrap .u32 (x * 2 ^ min (IntKind.u64.wrap (bits .and .u64 (IntKind.u64.wrap k) 31)).toNat 32)) (x.fdiv (2 ^ min (IntKind.u64.wrap (32 - bits .and .u64 (IntKind.u64.wrap k) 31)).toNat 32))

def Turns (k : Nat) : Prop := k = 16 ∨ k = 12 ∨ k = 8 ∨ k = 7

theorem rotL_eq {k : Nat} (hk : Turns k) {x : Int} (h : IntKind.u32.has x) : bits .or .u32 (IntKind.wrap .u32 (x * 2 ^ k)) (x.fdiv (2 ^ (32 - k))) = rot32 k x := by
  obtain ⟨h1, h2⟩ := has_u32 h
  rw [Int.fdiv_eq_ediv_of_nonneg _ (Int.le_of_lt (Int.pow_pos (by omega)))]
  have e : IntKind.wrap .u32 (x * 2 ^ k) = x % 2 ^ (32 - k) * 2 ^ k := by
    rw [wrap_u32]
    rcases hk with rfl | rfl | rfl | rfl <;> simp only [Nat.reduceSub, Int.reducePow] <;> omega
  rw [e, rot32]
  refine or_add32 (Int.emod_nonneg _ (Int.ne_of_gt (Int.pow_pos (by omega)))) ?_ (Int.ediv_nonneg h1 (Int.le_of_lt (Int.pow_pos (by omega)))) ?_ ?_
  all_goals rcases hk with rfl | rfl | rfl | rfl <;> simp only [Nat.reduceSub, Int.reducePow] <;> omega

theorem rotR_eq {k : Nat} (hk : Turns k) {x : Int} (h : IntKind.u32.has x) :
    IntKind.u32.wrap (IntKind.u32.wrap (x.tdiv (IntKind.u32.wrap (1 * 2 ^ (32 - k)))) + IntKind.u32.wrap (x.tmod (IntKind.u32.wrap (1 * 2 ^ (32 - k))) * IntKind.u32.wrap (1 * 2 ^ k))) = rot32 k x := by
  obtain ⟨h1, h2⟩ := has_u32 h
  rw [Int.tdiv_eq_ediv_of_nonneg h1, Int.tmod_eq_emod_of_nonneg h1]
  simp only [wrap_u32, rot32]
  rcases hk with rfl | rfl | rfl | rfl <;> simp only [Nat.reduceSub, Int.reducePow, Int.one_mul, Int.reduceMod] <;> omega

/-- A quarter at four places. -/
def qF (x : Nat → Int) (a b c d : Nat) : Nat → Int :=
  let x1 := upd x a (add32 (x a) (x b))
  let x2 := upd x1 d (rot32 16 (xor32 (x1 d) (x1 a)))
  let x3 := upd x2 c (add32 (x2 c) (x2 d))
  let x4 := upd x3 b (rot32 12 (xor32 (x3 b) (x3 c)))
  let x5 := upd x4 a (add32 (x4 a) (x4 b))
  let x6 := upd x5 d (rot32 8 (xor32 (x5 d) (x5 a)))
  let x7 := upd x6 c (add32 (x6 c) (x6 d))
  upd x7 b (rot32 7 (xor32 (x7 b) (x7 c)))

def quads : List (Nat × Nat × Nat × Nat) := [(0, 4, 8, 12), (1, 5, 9, 13), (2, 6, 10, 14), (3, 7, 11, 15), (0, 5, 10, 15), (1, 6, 11, 12), (2, 7, 8, 13), (3, 4, 9, 14)]
def quadB (a b c d : Int) : Bool := (decide (a = 0) && decide (b = 4) && decide (c = 8) && decide (d = 12)) || (decide (a = 1) && decide (b = 5) && decide (c = 9) && decide (d = 13)) || (decide (a = 2) && decide (b = 6) && decide (c = 10) && decide (d = 14)) ||
  (decide (a = 3) && decide (b = 7) && decide (c = 11) && decide (d = 15)) || (decide (a = 0) && decide (b = 5) && decide (c = 10) && decide (d = 15)) || (decide (a = 1) && decide (b = 6) && decide (c = 11) && decide (d = 12)) ||
  (decide (a = 2) && decide (b = 7) && decide (c = 8) && decide (d = 13)) || (decide (a = 3) && decide (b = 4) && decide (c = 9) && decide (d = 14))

/-- The words that stand in these cells. -/
def wd (cells : List Value) : Nat → Int := fun i => vint (atC cells i)

def isW (cells : List Value) : Bool := Nat.beq cells.length 16 && cells.all (isI .u32)

theorem cellsI_wd {k : IntKind} {cells : List Value} (h : cells.all (isI k) = true) : cells = cellsI k cells.length (wd cells) := by
  apply List.ext_getElem (by simp [cellsI])
  intro i h1 h2
  have := isI_eq (List.all_eq_true.1 h _ (List.getElem_mem h1))
  rw [this]
  simp [cellsI, wd, atC, h1]

theorem wd_cellsI {k : IntKind} {n : Nat} {x : Nat → Int} {i : Nat} (hi : i < n) : wd (cellsI k n x) i = x i := by
  simp [wd, atC, cellsI, hi, vint]

/-- A quarter of cells. -/
def qC (cells : List Value) (q : Nat × Nat × Nat × Nat) : List Value := cellsI .u32 16 (qF (wd cells) q.1 q.2.1 q.2.2.1 q.2.2.2)

def roundsC (cells : List Value) : List Value := (quads ++ quads ++ quads ++ quads ++ quads ++ quads ++ quads ++ quads ++ quads ++ quads).foldl qC cells

/-- Four bytes as a word, as the program reads them. -/
def wordI (b0 b1 b2 b3 : Int) : Int := bits .or .u32 (bits .or .u32 (bits .or .u32 (bits .or .u32 0 (IntKind.u32.wrap (IntKind.u32.wrap b3 * 2 ^ 24))) (IntKind.u32.wrap (IntKind.u32.wrap b2 * 2 ^ 16))) (IntKind.u32.wrap (IntKind.u32.wrap b1 * 2 ^ 8))) (IntKind.u32.wrap b0)
/-- And as the specification does. -/
def wordS (b0 b1 b2 b3 : Int) : Int := IntKind.u32.wrap (IntKind.u32.wrap (IntKind.u32.wrap (IntKind.u32.wrap (IntKind.u32.wrap (IntKind.u32.wrap (IntKind.u32.wrap (IntKind.u32.wrap (0 * 256) + IntKind.u32.wrap b3) * 256) + IntKind.u32.wrap b2) * 256) + IntKind.u32.wrap b1) * 256) + IntKind.u32.wrap b0)
def word (b0 b1 b2 b3 : Int) : Int := b0 + 256 * b1 + 65536 * b2 + 16777216 * b3

theorem wordS_eq {b0 b1 b2 b3 : Int} (h0 : IntKind.u8.has b0) (h1 : IntKind.u8.has b1) (h2 : IntKind.u8.has b2) (h3 : IntKind.u8.has b3) : wordS b0 b1 b2 b3 = word b0 b1 b2 b3 := by
  have := has_u8 h0; have := has_u8 h1; have := has_u8 h2; have := has_u8 h3
  simp only [wordS, word, wrap_u32]
  omega

theorem wordI_eq {b0 b1 b2 b3 : Int} (h0 : IntKind.u8.has b0) (h1 : IntKind.u8.has b1) (h2 : IntKind.u8.has b2) (h3 : IntKind.u8.has b3) : wordI b0 b1 b2 b3 = word b0 b1 b2 b3 := by
  have := has_u8 h0; have := has_u8 h1; have := has_u8 h2; have := has_u8 h3
  have e0 : IntKind.u32.wrap b0 = b0 := by rw [wrap_u32]; omega
  have e1 : IntKind.u32.wrap (IntKind.u32.wrap b1 * 2 ^ 8) = b1 * 2 ^ 8 := by simp only [wrap_u32, Int.reducePow]; omega
  have e2 : IntKind.u32.wrap (IntKind.u32.wrap b2 * 2 ^ 16) = b2 * 2 ^ 16 := by simp only [wrap_u32, Int.reducePow]; omega
  have e3 : IntKind.u32.wrap (IntKind.u32.wrap b3 * 2 ^ 24) = b3 * 2 ^ 24 := by simp only [wrap_u32, Int.reducePow]; omega
  have z : bits .or .u32 0 (b3 * 2 ^ 24) = b3 * 2 ^ 24 := by
    rw [or_comm32, or_add32 (by omega) (by omega) (by omega) (by omega) (by omega)]; omega
  have r1 : bits .or .u32 (b3 * 2 ^ 24) (b2 * 2 ^ 16) = (b3 * 256 + b2) * 2 ^ 16 := by
    rw [or_add32 (by omega) (by omega) (by omega) (by omega) (by omega)]; omega
  have r2 : bits .or .u32 ((b3 * 256 + b2) * 2 ^ 16) (b1 * 2 ^ 8) = (b3 * 65536 + b2 * 256 + b1) * 2 ^ 8 := by
    rw [or_add32 (by omega) (by omega) (by omega) (by omega) (by omega)]; omega
  have r3 : bits .or .u32 ((b3 * 65536 + b2 * 256 + b1) * 2 ^ 8) b0 = word b0 b1 b2 b3 := by
    rw [or_add32 (by omega) (by omega) (by omega) (by omega) (by omega)]; unfold word; omega
  unfold wordI
  rw [e0, e1, e2, e3, z, r1, r2, r3]

end Go.Num

namespace Go.Num
open Go.Ab

def turnB (k : Int) : Bool := decide (k = 16) || decide (k = 12) || decide (k = 8) || decide (k = 7)
theorem turnB_iff {k : Int} (h : turnB k = true) : k = 16 ∨ k = 12 ∨ k = 8 ∨ k = 7 := by
  simpa [turnB, or_assoc] using h

def rotSum (f : FuncId) : Sum :=
  { f := f, ro := true
    S := fun args os => match args, os with
      | [.int .u32 x, .int .i64 k], [] => if turnB k then some (.int .u32 (rot32 k.toNat x), [], []) else none
      | _, _ => none
    C := fun args _ => match args with
      | [.int .u32 x, _] => [(hasB .u32 x, true)]
      | _ => [] }

theorem rotSum_sound {P : Program} {M : Mem} {f : FuncId} {fn : Func} (hf : P.funcs[f]? = some fn) (hn : (fn.name == "runtime.NumGoroutine") = false) (hb : fn.body.isSome = true)
    (h : ∀ x, IntKind.u32.has x → ACalls P M f [.int .u32 x, .int .i64 16] [] (.int .u32 (rot32 16 x)) [] [] ∧ ACalls P M f [.int .u32 x, .int .i64 12] [] (.int .u32 (rot32 12 x)) [] [] ∧
      ACalls P M f [.int .u32 x, .int .i64 8] [] (.int .u32 (rot32 8 x)) [] [] ∧ ACalls P M f [.int .u32 x, .int .i64 7] [] (.int .u32 (rot32 7 x)) [] []) : (rotSum f).SoundC P M := by
  refine sumC_sound hf hn hb fun args os v os' ns hs hp => ?_
  simp only [rotSum] at hs hp ⊢
  split at hs
  · rename_i x k
    split at hs
    · rename_i hk
      cases hs
      have hx : IntKind.u32.has x := hasB_iff.1 (hp (hasB .u32 x, true) (List.Mem.head _))
      obtain ⟨h1, h2, h3, h4⟩ := h x hx
      refine ⟨?_, fun _ => rfl⟩
      rcases turnB_iff hk with rfl | rfl | rfl | rfl
      · exact h1
      · exact h2
      · exact h3
      · exact h4
    · cases hs
  · cases hs

def qS (q : Int × Int × Int × Int) : Nat × Nat × Nat × Nat := (q.1.toNat, q.2.1.toNat, q.2.2.1.toNat, q.2.2.2.toNat)

/-- A quarter, in the memory that a pointer names. -/
def qSum (f : FuncId) : Sum :=
  { f := f, ro := false
    S := fun args os => match args, os with
      | [.pointer (some ⟨0, 0, some 16⟩), .int .i64 a, .int .i64 b, .int .i64 c, .int .i64 d], [⟨cells, g, e, true⟩] =>
        if isW cells && quadB a b c d then some (.tuple ⟨[]⟩, [⟨qC cells (a.toNat, b.toNat, c.toNat, d.toNat), g, e, true⟩], []) else none
      | _, _ => none }

/-- A quarter, of a value. -/
def qSumV (f : FuncId) : Sum :=
  { f := f, ro := true
    S := fun args os => match args, os with
      | [.agg ⟨cells⟩, .int .i64 a, .int .i64 b, .int .i64 c, .int .i64 d], [] =>
        if isW cells && quadB a b c d then some (.agg ⟨qC cells (a.toNat, b.toNat, c.toNat, d.toNat)⟩, [], []) else none
      | _, _ => none }

theorem isW_iff {cells : List Value} (h : isW cells = true) : cells = cellsI .u32 16 (wd cells) := by
  simp only [isW, Bool.and_eq_true] at h
  have := cellsI_wd h.2
  rwa [Nat.eq_of_beq_eq_true h.1] at this

theorem quadB_iff {a b c d : Int} (h : quadB a b c d = true) : (a = 0 ∧ b = 4 ∧ c = 8 ∧ d = 12) ∨ (a = 1 ∧ b = 5 ∧ c = 9 ∧ d = 13) ∨ (a = 2 ∧ b = 6 ∧ c = 10 ∧ d = 14) ∨ (a = 3 ∧ b = 7 ∧ c = 11 ∧ d = 15) ∨
    (a = 0 ∧ b = 5 ∧ c = 10 ∧ d = 15) ∨ (a = 1 ∧ b = 6 ∧ c = 11 ∧ d = 12) ∨ (a = 2 ∧ b = 7 ∧ c = 8 ∧ d = 13) ∨ (a = 3 ∧ b = 4 ∧ c = 9 ∧ d = 14) := by
  simpa [quadB, and_assoc, or_assoc] using h

theorem wd_congr {k : IntKind} {cells : List Value} (h : cells = cellsI k cells.length (wd cells)) : True := trivial

theorem qSum_sound {P : Program} {M : Mem} {f : FuncId} {fn : Func} (hf : P.funcs[f]? = some fn) (hn : (fn.name == "runtime.NumGoroutine") = false) (hb : fn.body.isSome = true)
    (h : ∀ (x : Nat → Int) (g : Bool) (e : Nat) (q : Nat × Nat × Nat × Nat), q ∈ quads → ACalls P M f [.pointer (some ⟨0, 0, some 16⟩), .int .i64 q.1, .int .i64 q.2.1, .int .i64 q.2.2.1, .int .i64 q.2.2.2] [⟨cellsI .u32 16 x, g, e, true⟩]
      (.tuple ⟨[]⟩) [⟨cellsI .u32 16 (qF x q.1 q.2.1 q.2.2.1 q.2.2.2), g, e, true⟩] []) : (qSum f).SoundC P M := by
  refine sumC_sound hf hn hb fun args os v os' ns hs hp => ?_
  simp only [qSum] at hs hp ⊢
  split at hs
  · rename_i a b c d cells g e
    split at hs
    · rename_i hk
      cases hs
      simp only [Bool.and_eq_true] at hk
      refine ⟨?_, fun h => by cases h⟩
      have hw := isW_iff hk.1
      have key : ∀ q : Nat × Nat × Nat × Nat, q ∈ quads → ACalls P M f [.pointer (some ⟨0, 0, some 16⟩), .int .i64 q.1, .int .i64 q.2.1, .int .i64 q.2.2.1, .int .i64 q.2.2.2] [⟨cells, g, e, true⟩] (.tuple ⟨[]⟩) [⟨qC cells q, g, e, true⟩] [] := fun q hq => by
        have := h (wd cells) g e q hq
        rw [← hw] at this
        exact this
      rcases quadB_iff hk.2 with ⟨rfl, rfl, rfl, rfl⟩ | ⟨rfl, rfl, rfl, rfl⟩ | ⟨rfl, rfl, rfl, rfl⟩ | ⟨rfl, rfl, rfl, rfl⟩ | ⟨rfl, rfl, rfl, rfl⟩ | ⟨rfl, rfl, rfl, rfl⟩ | ⟨rfl, rfl, rfl, rfl⟩ | ⟨rfl, rfl, rfl, rfl⟩
      · exact key (0, 4, 8, 12) (by decide)
      · exact key (1, 5, 9, 13) (by decide)
      · exact key (2, 6, 10, 14) (by decide)
      · exact key (3, 7, 11, 15) (by decide)
      · exact key (0, 5, 10, 15) (by decide)
      · exact key (1, 6, 11, 12) (by decide)
      · exact key (2, 7, 8, 13) (by decide)
      · exact key (3, 4, 9, 14) (by decide)
    · cases hs
  · cases hs

theorem qSumV_sound {P : Program} {M : Mem} {f : FuncId} {fn : Func} (hf : P.funcs[f]? = some fn) (hn : (fn.name == "runtime.NumGoroutine") = false) (hb : fn.body.isSome = true)
    (h : ∀ (x : Nat → Int) (q : Nat × Nat × Nat × Nat), q ∈ quads → ACalls P M f [.agg ⟨cellsI .u32 16 x⟩, .int .i64 q.1, .int .i64 q.2.1, .int .i64 q.2.2.1, .int .i64 q.2.2.2] []
      (.agg ⟨cellsI .u32 16 (qF x q.1 q.2.1 q.2.2.1 q.2.2.2)⟩) [] []) : (qSumV f).SoundC P M := by
  refine sumC_sound hf hn hb fun args os v os' ns hs hp => ?_
  simp only [qSumV] at hs hp ⊢
  split at hs
  · rename_i cells a b c d
    split at hs
    · rename_i hk
      cases hs
      simp only [Bool.and_eq_true] at hk
      refine ⟨?_, fun _ => rfl⟩
      have hw := isW_iff hk.1
      have key : ∀ q : Nat × Nat × Nat × Nat, q ∈ quads → ACalls P M f [.agg ⟨cells⟩, .int .i64 q.1, .int .i64 q.2.1, .int .i64 q.2.2.1, .int .i64 q.2.2.2] [] (.agg ⟨qC cells q⟩) [] [] := fun q hq => by
        have := h (wd cells) q hq
        rw [← hw] at this
        exact this
      rcases quadB_iff hk.2 with ⟨rfl, rfl, rfl, rfl⟩ | ⟨rfl, rfl, rfl, rfl⟩ | ⟨rfl, rfl, rfl, rfl⟩ | ⟨rfl, rfl, rfl, rfl⟩ | ⟨rfl, rfl, rfl, rfl⟩ | ⟨rfl, rfl, rfl, rfl⟩ | ⟨rfl, rfl, rfl, rfl⟩ | ⟨rfl, rfl, rfl, rfl⟩
      · exact key (0, 4, 8, 12) (by decide)
      · exact key (1, 5, 9, 13) (by decide)
      · exact key (2, 6, 10, 14) (by decide)
      · exact key (3, 7, 11, 15) (by decide)
      · exact key (0, 5, 10, 15) (by decide)
      · exact key (1, 6, 11, 12) (by decide)
      · exact key (2, 7, 8, 13) (by decide)
      · exact key (3, 4, 9, 14) (by decide)
    · cases hs
  · cases hs

end Go.Num

namespace Go.Num
open Go.Ab

/-- The words behind the rounds. -/
def rF (x : Nat → Int) (i : Nat) : Int := wd (roundsC (cellsI .u32 16 x)) i

theorem roundsC_eq {cells : List Value} (h : isW cells = true) : roundsC cells = cellsI .u32 16 (rF (wd cells)) := by
  have e : roundsC cells = cellsI .u32 16 (wd (roundsC cells)) := by
    have h2 : ∃ x, roundsC cells = cellsI .u32 16 x := ⟨_, rfl⟩
    obtain ⟨x, hx⟩ := h2
    rw [hx]
    exact cellsI_congr fun i hi => (wd_cellsI hi).symm
  rw [e]
  refine cellsI_congr fun i hi => ?_
  unfold rF
  rw [← isW_iff h]

def roundsSum (f : FuncId) : Sum :=
  { f := f, ro := false
    S := fun args os => match args, os with
      | [.pointer (some ⟨0, 0, some 16⟩)], [⟨cells, g, e, true⟩] =>
        if isW cells then some (.tuple ⟨[]⟩, [⟨cellsI .u32 16 (rF (wd cells)), g, e, true⟩], []) else none
      | _, _ => none }

def roundsSumV (f : FuncId) : Sum :=
  { f := f, ro := true
    S := fun args os => match args, os with
      | [.agg ⟨cells⟩], [] => if isW cells then some (.agg ⟨cellsI .u32 16 (rF (wd cells))⟩, [], []) else none
      | _, _ => none }

theorem roundsSum_sound {P : Program} {M : Mem} {f : FuncId} {fn : Func} (hf : P.funcs[f]? = some fn) (hn : (fn.name == "runtime.NumGoroutine") = false) (hb : fn.body.isSome = true)
    (h : ∀ (x : Nat → Int) (g : Bool) (e : Nat), ACalls P M f [.pointer (some ⟨0, 0, some 16⟩)] [⟨cellsI .u32 16 x, g, e, true⟩] (.tuple ⟨[]⟩) [⟨roundsC (cellsI .u32 16 x), g, e, true⟩] []) : (roundsSum f).SoundC P M := by
  refine sumC_sound hf hn hb fun args os v os' ns hs hp => ?_
  simp only [roundsSum] at hs hp ⊢
  split at hs
  · rename_i cells g e
    split at hs
    · rename_i hk
      cases hs
      refine ⟨?_, fun h => by cases h⟩
      have := h (wd cells) g e
      rw [← isW_iff hk, roundsC_eq hk] at this
      exact this
    · cases hs
  · cases hs

theorem roundsSumV_sound {P : Program} {M : Mem} {f : FuncId} {fn : Func} (hf : P.funcs[f]? = some fn) (hn : (fn.name == "runtime.NumGoroutine") = false) (hb : fn.body.isSome = true)
    (h : ∀ (x : Nat → Int), ACalls P M f [.agg ⟨cellsI .u32 16 x⟩] [] (.agg ⟨roundsC (cellsI .u32 16 x)⟩) [] []) : (roundsSumV f).SoundC P M := by
  refine sumC_sound hf hn hb fun args os v os' ns hs hp => ?_
  simp only [roundsSumV] at hs hp ⊢
  split at hs
  · rename_i cells
    split at hs
    · rename_i hk
      cases hs
      refine ⟨?_, fun _ => rfl⟩
      have := h (wd cells)
      rw [← isW_iff hk, roundsC_eq hk] at this
      exact this
    · cases hs
  · cases hs

/-- The words ahead of the rounds, the bytes of the key read by W. -/
def startW (W : Int → Int → Int → Int → Int) (k : Nat → Int) (a b c d : Int) : List Value :=
  [.int .u32 1634760805, .int .u32 857760878, .int .u32 2036477234, .int .u32 1797285236,
   .int .u32 (W (k 0) (k 1) (k 2) (k 3)), .int .u32 (W (k 4) (k 5) (k 6) (k 7)), .int .u32 (W (k 8) (k 9) (k 10) (k 11)), .int .u32 (W (k 12) (k 13) (k 14) (k 15)),
   .int .u32 (W (k 16) (k 17) (k 18) (k 19)), .int .u32 (W (k 20) (k 21) (k 22) (k 23)), .int .u32 (W (k 24) (k 25) (k 26) (k 27)), .int .u32 (W (k 28) (k 29) (k 30) (k 31)),
   .int .u32 a, .int .u32 b, .int .u32 c, .int .u32 d]

/-- Byte r of a word, as the program lays it. -/
def byteL (r : Nat) (v : Int) : Int := IntKind.wrap .u8 (v.fdiv (2 ^ (8 * r)))
/-- And as the specification does. -/
def byteS : Nat → Int → Int
  | 0, v => IntKind.wrap .u8 (v.tmod 256)
  | r + 1, v => byteS r (IntKind.wrap .u32 (v.tdiv 256))

theorem byteS_eq {v : Int} (h : IntKind.u32.has v) : byteS 0 v = byteL 0 v ∧ byteS 1 v = byteL 1 v ∧ byteS 2 v = byteL 2 v ∧ byteS 3 v = byteL 3 v := by
  obtain ⟨h1, h2⟩ := has_u32 h
  simp only [byteS, byteL, wrap_u8, wrap_u32]
  rw [Int.tdiv_eq_ediv_of_nonneg h1, Int.tmod_eq_emod_of_nonneg h1, Int.tdiv_eq_ediv_of_nonneg (a := v / 256 % 4294967296) (by omega), Int.tmod_eq_emod_of_nonneg (a := v / 256 % 4294967296) (by omega),
    Int.tdiv_eq_ediv_of_nonneg (a := v / 256 % 4294967296 / 256 % 4294967296) (by omega), Int.tmod_eq_emod_of_nonneg (a := v / 256 % 4294967296 / 256 % 4294967296) (by omega), Int.tmod_eq_emod_of_nonneg (a := v / 256 % 4294967296 / 256 % 4294967296 / 256 % 4294967296) (by omega)]
  simp only [Nat.reduceMul, Int.fdiv_eq_ediv_of_nonneg _ (show (0 : Int) ≤ 2 ^ 0 by decide), Int.fdiv_eq_ediv_of_nonneg _ (show (0 : Int) ≤ 2 ^ 8 by decide), Int.fdiv_eq_ediv_of_nonneg _ (show (0 : Int) ≤ 2 ^ 16 by decide), Int.fdiv_eq_ediv_of_nonneg _ (show (0 : Int) ≤ 2 ^ 24 by decide)]
  refine ⟨?_, ?_, ?_, ?_⟩ <;> omega

theorem byteL_range (r : Nat) (v : Int) : IntKind.u8.has (byteL r v) := by
  rw [byteL, wrap_u8]; show 0 ≤ _ ∧ _ ≤ (255 : Int); omega

/-- A block out of the words ahead of the rounds. -/
def blockW (B : Nat → Int → Int) (s : List Value) : List Value := (List.range 64).map fun j => .int .u8 (B (j % 4) (add32 (rF (wd s) (j / 4)) (wd s (j / 4))))
/-- A key out of the words ahead of the rounds. -/
def keyW (B : Nat → Int → Int) (s : List Value) : List Value := (List.range 32).map fun j => .int .u8 (B (j % 4) (rF (wd s) (if j < 16 then j / 4 else 8 + j / 4)))

theorem startW_congr {k : Nat → Int} (hk : ∀ i, IntKind.u8.has (k i)) {a b c d : Int} : startW wordI k a b c d = startW word k a b c d ∧ startW wordS k a b c d = startW word k a b c d := by
  constructor
  · simp only [startW, wordI_eq (hk _) (hk _) (hk _) (hk _)]
  · simp only [startW, wordS_eq (hk _) (hk _) (hk _) (hk _)]

theorem byteS_byteL {v : Int} (h : IntKind.u32.has v) {r : Nat} (hr : r < 4) : byteS r v = byteL r v := by
  obtain ⟨h0, h1, h2, h3⟩ := byteS_eq h
  rcases (by omega : r = 0 ∨ r = 1 ∨ r = 2 ∨ r = 3) with rfl | rfl | rfl | rfl <;> assumption

theorem blockW_eq (s : List Value) : blockW byteS s = blockW byteL s := by
  unfold blockW
  apply List.map_congr_left
  intro j _
  rw [byteS_byteL (add32_range _ _) (by omega)]

theorem upd_range {k : IntKind} {x : Nat → Int} {a : Nat} {v : Int} (hv : k.has v) {i : Nat} (h : i ≠ a → k.has (x i)) : k.has (upd x a v i) := by
  by_cases hi : i = a
  · subst hi; rw [upd_self]; exact hv
  · rw [upd_ne hi]; exact h hi

theorem rot32_range {k : Nat} (hk : Turns k) {x : Int} (h : IntKind.u32.has x) : IntKind.u32.has (rot32 k x) := by
  obtain ⟨h1, h2⟩ := has_u32 h
  show 0 ≤ _ ∧ _ ≤ (4294967295 : Int)
  unfold rot32
  rcases hk with rfl | rfl | rfl | rfl <;> simp only [Nat.reduceSub, Int.reducePow] <;> omega

theorem qF_range {x : Nat → Int} {a b c d : Nat} (h : ∀ i, i < 16 → IntKind.u32.has (x i)) : ∀ i, i < 16 → IntKind.u32.has (qF x a b c d i) := fun i hi => by
  unfold qF
  refine upd_range (rot32_range (by simp [Turns]) (xor32_range _ _)) fun _ => upd_range (add32_range _ _) fun _ => upd_range (rot32_range (by simp [Turns]) (xor32_range _ _)) fun _ => upd_range (add32_range _ _) fun _ =>
    upd_range (rot32_range (by simp [Turns]) (xor32_range _ _)) fun _ => upd_range (add32_range _ _) fun _ => upd_range (rot32_range (by simp [Turns]) (xor32_range _ _)) fun _ => upd_range (add32_range _ _) fun _ => h i hi

theorem fold_range : ∀ (l : List (Nat × Nat × Nat × Nat)) (cells : List Value), (∀ i, i < 16 → IntKind.u32.has (wd cells i)) → ∀ i, i < 16 → IntKind.u32.has (wd (l.foldl qC cells) i) := by
  intro l
  induction l with
  | nil => intro cells h; exact h
  | cons q l ih =>
    intro cells h
    refine ih (qC cells q) fun i hi => ?_
    unfold qC
    rw [wd_cellsI hi]
    exact qF_range h i hi

theorem rF_range {x : Nat → Int} (h : ∀ i, i < 16 → IntKind.u32.has (x i)) : ∀ i, i < 16 → IntKind.u32.has (rF x i) :=
  fold_range _ _ fun i hi => by rw [wd_cellsI hi]; exact h i hi

theorem word_range {b0 b1 b2 b3 : Int} (h0 : IntKind.u8.has b0) (h1 : IntKind.u8.has b1) (h2 : IntKind.u8.has b2) (h3 : IntKind.u8.has b3) : IntKind.u32.has (word b0 b1 b2 b3) := by
  have := has_u8 h0; have := has_u8 h1; have := has_u8 h2; have := has_u8 h3
  show 0 ≤ _ ∧ _ ≤ (4294967295 : Int)
  unfold word
  omega

theorem start_range {k : Nat → Int} (hk : ∀ i, IntKind.u8.has (k i)) {a b c d : Int} (ha : IntKind.u32.has a) (hb : IntKind.u32.has b) (hc : IntKind.u32.has c) (hd : IntKind.u32.has d) : ∀ i, i < 16 → IntKind.u32.has (wd (startW word k a b c d) i) := by
  have w : ∀ p q r s, IntKind.u32.has (word (k p) (k q) (k r) (k s)) := fun p q r s => word_range (hk _) (hk _) (hk _) (hk _)
  intro i hi
  rcases (by omega : i = 0 ∨ i = 1 ∨ i = 2 ∨ i = 3 ∨ i = 4 ∨ i = 5 ∨ i = 6 ∨ i = 7 ∨ i = 8 ∨ i = 9 ∨ i = 10 ∨ i = 11 ∨ i = 12 ∨ i = 13 ∨ i = 14 ∨ i = 15) with rfl | rfl | rfl | rfl | rfl | rfl | rfl | rfl | rfl | rfl | rfl | rfl | rfl | rfl | rfl | rfl
  · exact (show IntKind.u32.has 1634760805 from ⟨by decide, by decide⟩)
  · exact (show IntKind.u32.has 857760878 from ⟨by decide, by decide⟩)
  · exact (show IntKind.u32.has 2036477234 from ⟨by decide, by decide⟩)
  · exact (show IntKind.u32.has 1797285236 from ⟨by decide, by decide⟩)
  all_goals first | exact w _ _ _ _ | assumption

theorem keyW_eq {s : List Value} (h : ∀ i, i < 16 → IntKind.u32.has (wd s i)) : keyW byteS s = keyW byteL s := by
  unfold keyW
  apply List.map_congr_left
  intro j hj
  have hj := List.mem_range.1 hj
  rw [byteS_byteL (rF_range h _ (by split <;> omega)) (by omega)]

/-- The words ahead of a block. -/
def bStart (W : Int → Int → Int → Int → Int) (k : Nat → Int) (c : Int) (n : Nat → Int) : List Value := startW W k c (W (n 0) (n 1) (n 2) (n 3)) (W (n 4) (n 5) (n 6) (n 7)) (W (n 8) (n 9) (n 10) (n 11))
def hStart (W : Int → Int → Int → Int → Int) (k n : Nat → Int) : List Value := startW W k (W (n 0) (n 1) (n 2) (n 3)) (W (n 4) (n 5) (n 6) (n 7)) (W (n 8) (n 9) (n 10) (n 11)) (W (n 12) (n 13) (n 14) (n 15))

theorem bStart_eq {k n : Nat → Int} (hk : ∀ i, IntKind.u8.has (k i)) (hn : ∀ i, IntKind.u8.has (n i)) (c : Int) : bStart wordI k c n = bStart word k c n ∧ bStart wordS k c n = bStart word k c n := by
  unfold bStart
  simp only [startW_congr hk, wordI_eq (hn _) (hn _) (hn _) (hn _), wordS_eq (hn _) (hn _) (hn _) (hn _), and_self]
theorem hStart_eq {k n : Nat → Int} (hk : ∀ i, IntKind.u8.has (k i)) (hn : ∀ i, IntKind.u8.has (n i)) : hStart wordI k n = hStart word k n ∧ hStart wordS k n = hStart word k n := by
  unfold hStart
  simp only [startW_congr hk, wordI_eq (hn _) (hn _) (hn _) (hn _), wordS_eq (hn _) (hn _) (hn _) (hn _), and_self]

/-- A block. -/
def blockF (k : Nat → Int) (c : Int) (n : Nat → Int) : List Value := blockW byteL (bStart word k c n)
/-- A key. -/
def keyF (k n : Nat → Int) : List Value := keyW byteL (hStart word k n)

end Go.Num

namespace Go.Num
open Go.Ab

/-- Four bytes lie there. -/
def four (cells : List Value) (f s : Nat) : Bool := Nat.beq cells.length s && (isI .u8 (atC cells f) && (isI .u8 (atC cells (f + 1)) && (isI .u8 (atC cells (f + 2)) && isI .u8 (atC cells (f + 3)))))

def wordSum (f : FuncId) : Sum :=
  { f := f, ro := true
    S := fun args os => match args, os with
      | [.slice (some ⟨0, f, some s⟩) 4 c], [⟨cells, g, e, true⟩] =>
        if four cells f s then some (.int .u32 (wordI (wd cells f) (wd cells (f + 1)) (wd cells (f + 2)) (wd cells (f + 3))), [⟨cells, g, e, true⟩], []) else none
      | _, _ => none }

theorem wordSum_sound {P : Program} {M : Mem} {f : FuncId} {fn : Func} (hf : P.funcs[f]? = some fn) (hn : (fn.name == "runtime.NumGoroutine") = false) (hb : fn.body.isSome = true)
    (h : ∀ (f1 s c e : Nat) (cells : List Value) (g : Bool), Held [(ldB .u8 ⟨cells, g, e, true⟩ s (f1 + 3), true), (ldB .u8 ⟨cells, g, e, true⟩ s (f1 + 2), true), (ldB .u8 ⟨cells, g, e, true⟩ s (f1 + 1), true), (ldB .u8 ⟨cells, g, e, true⟩ s f1, true)] →
      ACalls P M f [.slice (some ⟨0, f1, some s⟩) 4 c] [⟨cells, g, e, true⟩] (.int .u32 (wordI (wd cells f1) (wd cells (f1 + 1)) (wd cells (f1 + 2)) (wd cells (f1 + 3)))) [⟨cells, g, e, true⟩] []) : (wordSum f).SoundC P M := by
  refine sumC_sound hf hn hb fun args os v os' ns hs hp => ?_
  simp only [wordSum] at hs hp ⊢
  split at hs
  · rename_i f1 s c cells g e
    split at hs
    · rename_i hk
      cases hs
      simp only [four, Bool.and_eq_true] at hk
      obtain ⟨h0, h1, h2, h3, h4⟩ := hk
      have hl := Nat.eq_of_beq_eq_true h0
      refine ⟨h f1 s c e cells g ?_, fun _ => rfl⟩
      exact held_cons (by simp [ldB, hl, h4]) (held_cons (by simp [ldB, hl, h3]) (held_cons (by simp [ldB, hl, h2]) (held_one (by simp [ldB, hl, h1]))))
    · cases hs
  · cases hs

/-- The same, with what it asks for as a condition. -/
def wordSumP (f : FuncId) : Sum :=
  { f := f, ro := true
    S := fun args os => match args, os with
      | [.slice (some ⟨0, f, some s⟩) 4 c], [⟨cells, g, e, true⟩] => some (.int .u32 (wordI (wd cells f) (wd cells (f + 1)) (wd cells (f + 2)) (wd cells (f + 3))), [⟨cells, g, e, true⟩], [])
      | _, _ => none
    C := fun args os => match args, os with
      | [.slice (some ⟨0, f, some s⟩) 4 c], [⟨cells, g, e, true⟩] => [(four cells f s, true)]
      | _, _ => [] }

theorem wordSumP_sound {P : Program} {M : Mem} {f : FuncId} (h : (wordSum f).SoundC P M) : (wordSumP f).SoundC P M := by
  intro args os v os' ns hs hp
  simp only [wordSumP] at hs hp
  split at hs
  · rename_i f1 s c cells g e
    cases hs
    have hk : four cells f1 s = true := hp (four cells f1 s, true) (List.Mem.head _)
    refine h [.slice (some ⟨0, f1, some s⟩) 4 c] [⟨cells, g, e, true⟩] _ _ _ ?_ held_nil
    simp only [wordSum, hk, if_true]
  · cases hs

/-- Eight bytes as a word, as the program reads them. -/
def wordI64 (x : Nat → Int) (f : Nat) : Int :=
  bits .or .u64 (IntKind.u64.wrap (wordI (x f) (x (f + 1)) (x (f + 2)) (x (f + 3)))) (IntKind.u64.wrap (IntKind.u64.wrap (wordI (x (f + 4)) (x (f + 5)) (x (f + 6)) (x (f + 7))) * 2 ^ 32))

theorem val_one (B : Int) (x : Nat → Int) : val B x 1 = x 0 := by simp [val]

theorem wordI64_eq {x : Nat → Int} {f : Nat} (h : ∀ i, i < 8 → IntKind.u8.has (x (f + i))) : wordI64 x f = val 256 (fun i => x (f + i)) 8 := by
  have h0 := h 0 (by omega); have h1 := h 1 (by omega); have h2 := h 2 (by omega); have h3 := h 3 (by omega)
  have h4 := h 4 (by omega); have h5 := h 5 (by omega); have h6 := h 6 (by omega); have h7 := h 7 (by omega)
  simp only [Nat.add_zero] at h0
  unfold wordI64
  rw [wordI_eq h0 h1 h2 h3, wordI_eq h4 h5 h6 h7]
  have a := has_u32 (word_range h0 h1 h2 h3)
  have b := has_u32 (word_range h4 h5 h6 h7)
  have e0 : IntKind.u64.wrap (word (x f) (x (f + 1)) (x (f + 2)) (x (f + 3))) = word (x f) (x (f + 1)) (x (f + 2)) (x (f + 3)) := by rw [wrap_u64]; omega
  have e1 : IntKind.u64.wrap (IntKind.u64.wrap (word (x (f + 4)) (x (f + 5)) (x (f + 6)) (x (f + 7))) * 2 ^ 32) = word (x (f + 4)) (x (f + 5)) (x (f + 6)) (x (f + 7)) * 2 ^ 32 := by simp only [wrap_u64, Int.reducePow]; omega
  rw [e0, e1, or_comm64, or_add64 (by omega) (by omega) (by omega) (by omega) (by omega)]
  simp only [val, word, Nat.add_zero]
  omega

/-- Eight bytes lie there, in range. -/
def eightR (cells : List Value) (f s : Nat) : Bool := four cells f s && (four cells (f + 4) s && ((List.range 8).all fun i => hasB .u8 (wd cells (f + i))))

def word8Sum (f : FuncId) : Sum :=
  { f := f, ro := true
    S := fun args os => match args, os with
      | [.slice (some ⟨0, f, some s⟩) 8 c], [⟨cells, g, e, true⟩] => if (!g) || Nat.beq e 1 then some (.int .u64 (val 256 (fun i => wd cells (f + i)) 8), [⟨cells, g, e, true⟩], []) else none
      | _, _ => none
    C := fun args os => match args, os with
      | [.slice (some ⟨0, f, some s⟩) 8 c], [⟨cells, g, e, true⟩] => [(eightR cells f s, true), (Nat.ble 8 c, true)]
      | _, _ => [] }

theorem word8Sum_sound {P : Program} {M : Mem} {f : FuncId} {fn : Func} (hf : P.funcs[f]? = some fn) (hn : (fn.name == "runtime.NumGoroutine") = false) (hb : fn.body.isSome = true)
    (h : ∀ (f1 s c e : Nat) (cells : List Value), 8 ≤ c → four cells f1 s = true → four cells (f1 + 4) s = true →
      ACalls P M f [.slice (some ⟨0, f1, some s⟩) 8 c] [⟨cells, false, e, true⟩] (.int .u64 (wordI64 (wd cells) f1)) [⟨cells, false, e, true⟩] [])
    (h2 : ∀ (f1 s c : Nat) (cells : List Value), 8 ≤ c → four cells f1 s = true → four cells (f1 + 4) s = true →
      ACalls P M f [.slice (some ⟨0, f1, some s⟩) 8 c] [⟨cells, true, 1, true⟩] (.int .u64 (wordI64 (wd cells) f1)) [⟨cells, true, 1, true⟩] []) : (word8Sum f).SoundC P M := by
  refine sumC_sound hf hn hb fun args os v os' ns hs hp => ?_
  simp only [word8Sum] at hs hp ⊢
  split at hs
  · rename_i f1 s c cells g e
    split at hs
    · rename_i hge
      cases hs
      have hk : eightR cells f1 s = true := hp (eightR cells f1 s, true) (List.Mem.head _)
      have hc : Nat.ble 8 c = true := hp (Nat.ble 8 c, true) (List.Mem.tail _ (List.Mem.head _))
      simp only [eightR, Bool.and_eq_true, List.all_eq_true, List.mem_range] at hk
      obtain ⟨k1, k2, k3⟩ := hk
      refine ⟨?_, fun _ => rfl⟩
      rw [← wordI64_eq fun i hi => hasB_iff.1 (k3 i hi)]
      cases g with
      | false => exact h f1 s c e cells (Nat.le_of_ble_eq_true hc) k1 k2
      | true =>
        simp only [Bool.not_true, Bool.false_or] at hge
        have := Nat.eq_of_beq_eq_true hge
        subst this
        exact h2 f1 s c cells (Nat.le_of_ble_eq_true hc) k1 k2
    · cases hs
  · cases hs

end Go.Num

namespace Go.Num
open Go.Ab

def T64 : Int := 18446744073709551616

def addB (x y c : Int) : Bool := hasB .u64 x && (hasB .u64 y && (decide (0 ≤ c) && decide (c ≤ 1)))
theorem addB_iff {x y c : Int} : addB x y c = true ↔ IntKind.u64.has x ∧ IntKind.u64.has y ∧ 0 ≤ c ∧ c ≤ 1 := by simp [addB, hasB_iff]

def add64Sum (f : FuncId) : Sum :=
  { f := f, ro := true
    S := fun args os => match args with
      | [.int .u64 x, .int .u64 y, .int .u64 c] => some (.tuple ⟨[.int .u64 ((x + y + c) % 18446744073709551616), .int .u64 ((x + y + c) / 18446744073709551616)]⟩, os, [])
      | _ => none
    C := fun args _ => match args with
      | [.int .u64 x, .int .u64 y, .int .u64 c] => [(addB x y c, true)]
      | _ => [] }

theorem add64Sum_sound {P : Program} {M : Mem} {f : FuncId} {fn : Func} (hf : P.funcs[f]? = some fn) (hname : (fn.name == "runtime.NumGoroutine") = false) (hb : fn.body.isNone = true) (hn : Extern.findNext fn = none) (he : Extern.find fn = some add64Entry) :
    (add64Sum f).SoundC P M := by
  intro args os v os' ns hs hp
  simp only [add64Sum] at hs hp
  split at hs
  · rename_i x y c
    cases hs
    have hc : addB x y c = true := hp (addB x y c, true) (List.Mem.head _)
    obtain ⟨h1, h2, h3, h4⟩ := addB_iff.1 hc
    refine ⟨.inr ⟨rfl, rfl, fun m w args' r hargs => ?_⟩, fun _ => rfl⟩
    have e : args' = #[.int .u64 x, .int .u64 y, .int .u64 c] := by
      have := hargs.eq rfl
      cases args'
      simp_all
    subst e
    refine ⟨_, ?_, .same rfl⟩
    show (callFunc f #[.int .u64 x, .int .u64 y, .int .u64 c]).run P w = _
    rw [run_callFunc_extern hf hname hb hn he, run_add64 x y c (has_u64 h1).1 (has_u64 h2).1 h3 h4]
    rfl
  · cases hs

def mul64Sum (f : FuncId) : Sum :=
  { f := f, ro := true
    S := fun args os => match args, os with
      | [.int .u64 x, .int .u64 y], [] => some (.tuple ⟨[.int .u64 (x * y / 18446744073709551616), .int .u64 (x * y % 18446744073709551616)]⟩, [], [])
      | _, _ => none
    C := fun args _ => match args with
      | [.int .u64 x, .int .u64 y] => [(hasB .u64 x && hasB .u64 y, true)]
      | _ => [] }

/-- The high half as the library's text computes it. -/
def mulHi (x y : Int) : Int :=
  let m := fun a => bits .and .u64 a 4294967295
  let w := IntKind.u64.wrap
  let s := fun a : Int => a.fdiv (2 ^ 32)
  let t := w (w (s x * m y) + s (w (m x * m y)))
  w (w (w (s x * s y) + s t) + s (w (m t + w (m x * s y))))

theorem mulHi_eq {x y : Int} (hx : IntKind.u64.has x) (hy : IntKind.u64.has y) : mulHi x y = x * y / 18446744073709551616 := by
  obtain ⟨x1, x2⟩ := has_u64 hx
  obtain ⟨y1, y2⟩ := has_u64 hy
  have ww : ∀ a, 0 ≤ IntKind.u64.wrap a ∧ IntKind.u64.wrap a < 18446744073709551616 := fun a => by rw [wrap_u64]; omega
  have m : ∀ a : Int, 0 ≤ a → a < 18446744073709551616 → bits .and .u64 a 4294967295 = a % 4294967296 := fun a h1 h2 => and_mask64 (k := 32) h1 h2 (by omega)
  have s : ∀ a : Int, a.fdiv (2 ^ 32) = a / 4294967296 := fun a => Int.fdiv_eq_ediv_of_nonneg _ (by decide)
  have key := mul64_arith x y x1 (by omega) y1 (by omega)
  simp only [mulHi, s, m x x1 (by omega), m y y1 (by omega), m _ (ww _).1 (ww _).2]
  simp only [wrap_u64]
  exact key

theorem mul64Sum_sound {P : Program} {M : Mem} {f : FuncId} {fn : Func} (hf : P.funcs[f]? = some fn) (hn : (fn.name == "runtime.NumGoroutine") = false) (hb : fn.body.isSome = true)
    (h : ∀ x y : Int, ACalls P M f [.int .u64 x, .int .u64 y] [] (.tuple ⟨[.int .u64 (mulHi x y), .int .u64 (IntKind.u64.wrap (x * y))]⟩) [] []) : (mul64Sum f).SoundC P M := by
  refine sumC_sound hf hn hb fun args os v os' ns hs hp => ?_
  simp only [mul64Sum] at hs hp ⊢
  split at hs
  · rename_i x y
    cases hs
    have hc : (hasB .u64 x && hasB .u64 y) = true := hp (hasB .u64 x && hasB .u64 y, true) (List.Mem.head _)
    simp only [Bool.and_eq_true, hasB_iff] at hc
    have := h x y
    rw [mulHi_eq hc.1 hc.2, wrap_u64] at this
    exact ⟨this, fun _ => rfl⟩
  · cases hs

end Go.Num

namespace Go.Num
open Go.Ab

def B51 : Int := 2251799813685248
def pF : Int := 57896044618658097711785492504343953926634992332820282019728792003956564819949
/-- The bound of a carried limb. -/
def RB : Int := 2251799813816320

/-- Carried, what leaves the top coming back nineteenfold. -/
def carE (x : Nat → Int) (i : Nat) : Int := dig B51 x i + (bif Nat.beq i 0 then 19 * car B51 x 5 else 0)

theorem val5 (B : Int) (x : Nat → Int) : val B x 5 = x 0 + x 1 * B + x 2 * B ^ 2 + x 3 * B ^ 3 + x 4 * B ^ 4 := by
  simp only [val]; grind

theorem carE_val (x : Nat → Int) : val B51 (carE x) 5 = val B51 x 5 - pF * car B51 x 5 := by
  have h := dig_val (B := B51) (t := x) (n := 5)
  have e : val B51 (carE x) 5 = val B51 (dig B51 x) 5 + 19 * car B51 x 5 := by
    rw [val5, val5]
    simp only [carE, Nat.beq, cond_true, cond_false, Int.add_zero]
    omega
  have hB : B51 ^ 5 = 57896044618658097711785492504343953926634992332820282019728792003956564819968 := by decide
  rw [hB] at h
  rw [e]
  unfold pF
  omega

def Bd (K : Int) (x : Nat → Int) : Prop := ∀ i, i < 5 → 0 ≤ x i ∧ x i ≤ K

theorem carE_bd {x : Nat → Int} {K : Int} (hK : 0 ≤ K) (hK2 : K ≤ 9223372036854775807) (h : Bd K x) : Bd (2251799813685247 + 19 * (K / 2251799813685248 + 1)) (carE x) ∧ 0 ≤ car B51 x 5 ∧ car B51 x 5 ≤ K / 2251799813685248 + 1 := by
  have hc := car_range (B := B51) (t := x) (T := K) (C := K / 2251799813685248 + 1) (n := 5) (by decide) (by omega) (by unfold B51; omega) (fun k hk => h k hk) (Nat.le_refl 5)
  refine ⟨fun i hi => ?_, hc⟩
  have hd := dig_range (B := B51) (by decide) x i
  have hB : B51 = 2251799813685248 := rfl
  unfold carE
  cases Nat.beq i 0 with
  | true => simp only [cond_true]; omega
  | false => simp only [cond_false]; omega

theorem carE_rb {x : Nat → Int} (h : Bd 9223372036854775807 x) : Bd RB (carE x) := fun i hi => by
  have := (carE_bd (by decide) (by decide) h).1 i hi
  unfold RB
  omega

theorem bd_mono {K L : Int} (hKL : K ≤ L) {x : Nat → Int} (h : Bd K x) : Bd L x := fun i hi => by have := h i hi; omega

/-- As the program carries. -/
def carryI (x : Nat → Int) : List Value :=
  let w := IntKind.u64.wrap
  let s := fun a : Int => a.fdiv (2 ^ 51)
  let m := fun a : Int => bits .and .u64 a 2251799813685247
  let b := w (x 1 + s (x 0))
  let c := w (x 2 + s b)
  let d := w (x 3 + s c)
  let e := w (x 4 + s d)
  [.int .u64 (w (m (x 0) + w (19 * s e))), .int .u64 (m b), .int .u64 (m c), .int .u64 (m d), .int .u64 (m e)]

theorem sh51 (a : Int) : a.fdiv (2 ^ 51) = a / 2251799813685248 := Int.fdiv_eq_ediv_of_nonneg _ (by decide)
theorem mask51 {a : Int} (h : 0 ≤ a) (h2 : a < 18446744073709551616) : bits .and .u64 a 2251799813685247 = a % 2251799813685248 := and_mask64 (k := 51) h h2 (by omega)
theorem wrap64_id {a : Int} (h : 0 ≤ a) (h2 : a < 18446744073709551616) : IntKind.u64.wrap a = a := by rw [wrap_u64]; omega

theorem carryI_eq {x : Nat → Int} (h : Bd 9223372036854775807 x) : carryI x = cellsI .u64 5 (carE x) := by
  have h0 := h 0 (by omega); have h1 := h 1 (by omega); have h2 := h 2 (by omega); have h3 := h 3 (by omega); have h4 := h 4 (by omega)
  have c1 : car B51 x 1 = x 0 / 2251799813685248 := by simp [car, B51]
  have c2 : car B51 x 2 = (x 1 + x 0 / 2251799813685248) / 2251799813685248 := by rw [car, c1]; unfold B51; rw [Int.add_comm]
  have c3 : car B51 x 3 = (x 2 + car B51 x 2) / 2251799813685248 := by rw [car]; unfold B51; rw [Int.add_comm]
  have c4 : car B51 x 4 = (x 3 + car B51 x 3) / 2251799813685248 := by rw [car]; unfold B51; rw [Int.add_comm]
  have c5 : car B51 x 5 = (x 4 + car B51 x 4) / 2251799813685248 := by rw [car]; unfold B51; rw [Int.add_comm]
  have b1 : IntKind.u64.wrap (x 1 + (x 0).fdiv (2 ^ 51)) = x 1 + x 0 / 2251799813685248 := by rw [sh51, wrap64_id (by omega) (by omega)]
  have b2 : IntKind.u64.wrap (x 2 + (x 1 + x 0 / 2251799813685248).fdiv (2 ^ 51)) = x 2 + car B51 x 2 := by rw [sh51, ← c2, wrap64_id (by omega) (by omega)]
  have b3 : IntKind.u64.wrap (x 3 + (x 2 + car B51 x 2).fdiv (2 ^ 51)) = x 3 + car B51 x 3 := by rw [sh51, ← c3, wrap64_id (by omega) (by omega)]
  have b4 : IntKind.u64.wrap (x 4 + (x 3 + car B51 x 3).fdiv (2 ^ 51)) = x 4 + car B51 x 4 := by rw [sh51, ← c4, wrap64_id (by omega) (by omega)]
  simp only [carryI, b1, b2, b3, b4]
  rw [sh51, ← c5, mask51 h0.1 (by omega), mask51 (by omega) (by omega), mask51 (by omega) (by omega), mask51 (by omega) (by omega), mask51 (by omega) (by omega), wrap64_id (a := 19 * car B51 x 5) (by omega) (by omega), wrap64_id (by omega) (by omega)]
  have e : cellsI .u64 5 (carE x) = [.int .u64 (carE x 0), .int .u64 (carE x 1), .int .u64 (carE x 2), .int .u64 (carE x 3), .int .u64 (carE x 4)] := rfl
  rw [e]
  simp only [carE, dig, c1, Nat.beq, cond_true, cond_false, Int.add_zero]
  rw [show car B51 x 0 = 0 from rfl]
  simp only [Int.zero_add, Int.add_comm (car B51 x _), Int.add_comm (x 0 / 2251799813685248)]
  rfl

/-- 128 bits in two words, and a product added. -/
def w2 (V : Int) : List Value := [.int .u64 (V / 18446744073709551616), .int .u64 (V % 18446744073709551616)]

def plusB (h l a b : Int) : Bool := hasB .u64 h && (hasB .u64 l && (hasB .u64 a && (hasB .u64 b && decide (h * 18446744073709551616 + l + a * b < 340282366920938463463374607431768211456))))

def plusSum (f : FuncId) : Sum :=
  { f := f, ro := true
    S := fun args os => match args, os with
      | [.agg ⟨[.int .u64 h, .int .u64 l]⟩, .int .u64 a, .int .u64 b], [] => some (.agg ⟨w2 (h * 18446744073709551616 + l + a * b)⟩, [], [])
      | _, _ => none
    C := fun args _ => match args with
      | [.agg ⟨[.int .u64 h, .int .u64 l]⟩, .int .u64 a, .int .u64 b] => [(plusB h l a b, true)]
      | _ => [] }

theorem mul_range64 {a b : Int} (ha : IntKind.u64.has a) (hb : IntKind.u64.has b) : 0 ≤ a * b ∧ a * b ≤ 340282366920938463426481119284349108225 := by
  obtain ⟨a1, a2⟩ := has_u64 ha
  obtain ⟨b1, b2⟩ := has_u64 hb
  refine ⟨Int.mul_nonneg a1 b1, ?_⟩
  have := Int.mul_le_mul a2 b2 b1 (by omega : (0 : Int) ≤ 18446744073709551615)
  simpa using this

theorem plusSum_sound {P : Program} {M : Mem} {f : FuncId} {fn : Func} (hf : P.funcs[f]? = some fn) (hn : (fn.name == "runtime.NumGoroutine") = false) (hb : fn.body.isSome = true)
    (h : ∀ h l a b : Int, Held [(hasB .u64 a && hasB .u64 b, true), (addB l (a * b % 18446744073709551616) 0, true), (addB h (a * b / 18446744073709551616) ((l + a * b % 18446744073709551616 + 0) / 18446744073709551616), true)] →
      ACalls P M f [.agg ⟨[.int .u64 h, .int .u64 l]⟩, .int .u64 a, .int .u64 b] []
      (.agg ⟨[.int .u64 ((h + a * b / 18446744073709551616 + (l + a * b % 18446744073709551616 + 0) / 18446744073709551616) % 18446744073709551616), .int .u64 ((l + a * b % 18446744073709551616 + 0) % 18446744073709551616)]⟩) [] []) : (plusSum f).SoundC P M := by
  refine sumC_sound hf hn hb fun args os v os' ns hs hp => ?_
  simp only [plusSum] at hs hp ⊢
  split at hs
  · rename_i hi lo a b
    cases hs
    have hc : plusB hi lo a b = true := hp (plusB hi lo a b, true) (List.Mem.head _)
    simp only [plusB, Bool.and_eq_true, hasB_iff, decide_eq_true_eq] at hc
    obtain ⟨h1, h2, h3, h4, h5⟩ := hc
    have hm := mul_range64 h3 h4
    have i1 := has_u64 h1
    have i2 := has_u64 h2
    have key := h hi lo a b
    generalize a * b = P at *
    have hr : ∀ n : Int, 0 ≤ n → n ≤ 18446744073709551615 → IntKind.u64.has n := fun n p q => ⟨p, q⟩
    have := key (held_cons (by simp [hasB_iff, h3, h4]) (held_cons (addB_iff.2 ⟨h2, hr _ (by omega) (by omega), by omega, by omega⟩) (held_one (addB_iff.2 ⟨h1, hr _ (by omega) (by omega), by omega, by omega⟩))))
    refine ⟨?_, fun _ => rfl⟩
    have e : w2 (hi * 18446744073709551616 + lo + P) = [.int .u64 ((hi + P / 18446744073709551616 + (lo + P % 18446744073709551616 + 0) / 18446744073709551616) % 18446744073709551616), .int .u64 ((lo + P % 18446744073709551616 + 0) % 18446744073709551616)] := by
      simp only [w2, List.cons.injEq, Value.int.injEq, true_and, and_true]
      omega
    rw [e]
    exact this
  · cases hs

end Go.Num

namespace Go.Num
open Go.Ab

def wx (x : Nat → Int) (i k : Nat) : Int := bif Nat.blt (i + k) 5 then x i else IntKind.u64.wrap (x i * 19)
def tx (x y : Nat → Int) (i j : Nat) : Int := bif Nat.ble i j then x i * y (j - i) else IntKind.u64.wrap (x i * 19) * y (5 + j - i)
/-- The sums of products after i rows. -/
def VV (x y : Nat → Int) : Nat → Nat → Int
  | 0, _ => 0
  | i + 1, j => VV x y i j / 18446744073709551616 * 18446744073709551616 + VV x y i j % 18446744073709551616 + tx x y i j

def jj (i k : Nat) : Nat := bif Nat.blt (i + k) 5 then i + k else i + k - 5

def plusPins (x y : Nat → Int) : Pins := (List.range 5).flatMap fun i => (List.range 5).map fun k =>
  (plusB (VV x y i (jj i k) / 18446744073709551616) (VV x y i (jj i k) % 18446744073709551616) (wx x i k) (y k), true)

/-- Low and high word on the way. -/
def ch (R : Nat → Int) : Nat → Int × Int
  | 0 => (0, 0)
  | i + 1 => 
    let lo := (R i % 18446744073709551616 + (ch R i).2 + 0) % 18446744073709551616
    let hi := (R i / 18446744073709551616 + (ch R i).1 + (R i % 18446744073709551616 + (ch R i).2 + 0) / 18446744073709551616) % 18446744073709551616
    (hi.fdiv (2 ^ 51), bits .or .u64 (lo.fdiv (2 ^ 51)) (IntKind.u64.wrap (hi * 2 ^ 13)))

def lowI (R : Nat → Int) (i : Nat) : Int := (R i % 18446744073709551616 + (ch R i).2 + 0) % 18446744073709551616
def outI (R : Nat → Int) (i : Nat) : Int := bits .and .u64 (lowI R i) 2251799813685247

def lowZ (R : Nat → Int) : Int := (outI R 0 + (ch R 5).2 * 19 % 18446744073709551616 + 0) % 18446744073709551616
def highZ (R : Nat → Int) : Int := IntKind.u64.wrap ((ch R 5).2 * 19 / 18446744073709551616 + IntKind.u64.wrap ((outI R 0 + (ch R 5).2 * 19 % 18446744073709551616 + 0) / 18446744073709551616 + IntKind.u64.wrap (19 * (ch R 5).1)))
def mulL (R : Nat → Int) : List Value :=
  [.int .u64 (bits .and .u64 (lowZ R) 2251799813685247), .int .u64 (IntKind.u64.wrap (outI R 1 + bits .or .u64 ((lowZ R).fdiv (2 ^ 51)) (IntKind.u64.wrap (highZ R * 2 ^ 13)))), .int .u64 (outI R 2), .int .u64 (outI R 3), .int .u64 (outI R 4)]

def addPins (R : Nat → Int) : Pins := (List.range 5).flatMap fun i =>
  [(addB (R i % 18446744073709551616) (ch R i).2 0, true), (addB (R i / 18446744073709551616) (ch R i).1 ((R i % 18446744073709551616 + (ch R i).2 + 0) / 18446744073709551616), true)]

/-- Are all cells numbers from 0 to K? -/
def leB (K : Int) (l : List Value) : Bool := l.all fun v => decide (0 ≤ vint v) && decide (vint v ≤ K)

def mulPins (x y : Nat → Int) : Pins := plusPins x y ++ (addPins (VV x y 5) ++ [(hasB .u64 (ch (VV x y 5) 5).2 && hasB .u64 19, true), (addB (outI (VV x y 5) 0) ((ch (VV x y 5) 5).2 * 19 % 18446744073709551616) 0, true), (leB 9223372036854775807 (mulL (VV x y 5)), true)])

/-- What the sums of products come to. -/
def Rx (x y : Nat → Int) (j : Nat) : Int := bif Nat.beq j 0 then x 0 * y 0 + 19 * (x 1 * y 4 + x 2 * y 3 + x 3 * y 2 + x 4 * y 1) else
  bif Nat.beq j 1 then x 0 * y 1 + x 1 * y 0 + 19 * (x 2 * y 4 + x 3 * y 3 + x 4 * y 2) else
  bif Nat.beq j 2 then x 0 * y 2 + x 1 * y 1 + x 2 * y 0 + 19 * (x 3 * y 4 + x 4 * y 3) else
  bif Nat.beq j 3 then x 0 * y 3 + x 1 * y 2 + x 2 * y 1 + x 3 * y 0 + 19 * (x 4 * y 4) else
  x 0 * y 4 + x 1 * y 3 + x 2 * y 2 + x 3 * y 1 + x 4 * y 0

theorem VV_succ (x y : Nat → Int) (i j : Nat) : VV x y (i + 1) j = VV x y i j + tx x y i j := by
  rw [VV]; omega

theorem prod_bd {x y : Nat → Int} (hx : Bd RB x) (hy : Bd RB y) {i k : Nat} (hi : i < 5) (hk : k < 5) : 0 ≤ x i * y k ∧ x i * y k ≤ 5070602400912917605986812821504 * 2 := by
  have a := hx i hi
  have b := hy k hk
  refine ⟨Int.mul_nonneg a.1 b.1, ?_⟩
  have := Int.mul_le_mul a.2 b.2 b.1 (show 0 ≤ RB by decide)
  have e : RB * RB ≤ 5070602400912917605986812821504 * 2 := by decide
  omega

theorem wrap19 {x : Nat → Int} (hx : Bd RB x) {i : Nat} (hi : i < 5) : IntKind.u64.wrap (x i * 19) = x i * 19 := by
  have := hx i hi
  unfold RB at this
  rw [wrap64_id (by omega) (by omega)]

theorem tx_bd {x y : Nat → Int} (hx : Bd RB x) (hy : Bd RB y) {i j : Nat} (hi : i < 5) (hj : j < 5) : 0 ≤ tx x y i j ∧ tx x y i j ≤ 192682891234690869027498887217152 ∧ tx x y i j = (if i ≤ j then x i * y (j - i) else 19 * (x i * y (5 + j - i))) := by
  unfold tx
  by_cases h : i ≤ j
  · have hb : Nat.ble i j = true := Nat.ble_eq_true_of_le h
    have := prod_bd hx hy (i := i) (k := j - i) hi (by omega)
    rw [hb, if_pos h]
    simp only [cond_true]
    exact ⟨this.1, by omega, trivial⟩
  · have hb : Nat.ble i j = false := by rw [Bool.eq_false_iff]; exact fun e => h (Nat.le_of_ble_eq_true e)
    have := prod_bd hx hy (i := i) (k := 5 + j - i) hi (by omega)
    rw [hb, if_neg h, wrap19 hx hi]
    simp only [cond_false]
    have e : x i * 19 * y (5 + j - i) = 19 * (x i * y (5 + j - i)) := by grind
    rw [e]
    exact ⟨by omega, by omega, rfl⟩

theorem VV_bd {x y : Nat → Int} (hx : Bd RB x) (hy : Bd RB y) {j : Nat} (hj : j < 5) : ∀ {i : Nat}, i ≤ 5 → 0 ≤ VV x y i j ∧ VV x y i j ≤ i * 192682891234690869027498887217152 := by
  intro i
  induction i with
  | zero => intro _; simp [VV]
  | succ i ih =>
    intro hi
    have h1 := ih (by omega)
    have h2 := tx_bd hx hy (i := i) (j := j) (by omega) hj
    rw [VV_succ]
    generalize VV x y i j = a at *
    generalize tx x y i j = b at *
    omega

theorem VV_eq {x y : Nat → Int} (hx : Bd RB x) (hy : Bd RB y) {j : Nat} (hj : j < 5) : VV x y 5 j = Rx x y j := by
  have t := fun i (hi : i < 5) => (tx_bd hx hy (i := i) (j := j) hi hj).2.2
  have e0 : VV x y 0 j = 0 := rfl
  rw [VV_succ, VV_succ, VV_succ, VV_succ, VV_succ, t 0 (by omega), t 1 (by omega), t 2 (by omega), t 3 (by omega), t 4 (by omega), e0]
  rcases (by omega : j = 0 ∨ j = 1 ∨ j = 2 ∨ j = 3 ∨ j = 4) with rfl | rfl | rfl | rfl | rfl <;> simp [Rx, Nat.beq] <;> omega

theorem Rx_val (x y : Nat → Int) : ∃ q, val B51 (Rx x y) 5 = val B51 x 5 * val B51 y 5 - pF * q := by
  refine ⟨(x 1 * y 4 + x 2 * y 3 + x 3 * y 2 + x 4 * y 1) + (x 2 * y 4 + x 3 * y 3 + x 4 * y 2) * B51 + (x 3 * y 4 + x 4 * y 3) * B51 ^ 2 + x 4 * y 4 * B51 ^ 3, ?_⟩
  have hp : pF = B51 ^ 5 - 19 := by decide
  rw [hp, val5, val5, val5]
  simp only [Rx, Nat.beq, cond_true, cond_false]
  generalize B51 = B
  grind

theorem or_sh {lo hi : Int} (h1 : 0 ≤ lo) (h2 : lo < 18446744073709551616) (h3 : 0 ≤ hi) (h4 : hi < 18446744073709551616) :
    bits .or .u64 (lo.fdiv (2 ^ 51)) (IntKind.u64.wrap (hi * 2 ^ 13)) = (hi * 18446744073709551616 + lo) / 2251799813685248 % 18446744073709551616 := by
  have e : IntKind.u64.wrap (hi * 2 ^ 13) = (hi % 2251799813685248) * 2 ^ 13 := by rw [wrap_u64]; omega
  rw [sh51, or_comm64, e, or_add64 (by omega) (by omega) (by omega) (by omega) (by omega)]
  omega

/-- Carrying through words of 64 bits is carrying. -/
theorem ch_eq {R : Nat → Int} (h : ∀ i, i < 5 → 0 ≤ R i ∧ R i ≤ 1000000000000000000000000000000000) : ∀ {i : Nat}, i ≤ 5 → 0 ≤ car B51 R i ∧ car B51 R i ≤ 1000000000000000000 ∧ ch R i = (car B51 R i / 18446744073709551616, car B51 R i % 18446744073709551616) := by
  intro i
  induction i with
  | zero => intro _; simp [ch, car]
  | succ i ih =>
    intro hi
    obtain ⟨h1, h2, h3⟩ := ih (by omega)
    have hr := h i (by omega)
    have e : car B51 R (i + 1) = (car B51 R i + R i) / 2251799813685248 := rfl
    simp only [ch, h3, e]
    generalize car B51 R i = c at *
    generalize R i = r at *
    refine ⟨by omega, by omega, ?_⟩
    have elo : (r % 18446744073709551616 + c % 18446744073709551616 + 0) % 18446744073709551616 = (c + r) % 18446744073709551616 := by omega
    have ehi : (r / 18446744073709551616 + c / 18446744073709551616 + (r % 18446744073709551616 + c % 18446744073709551616 + 0) / 18446744073709551616) % 18446744073709551616 = (c + r) / 18446744073709551616 := by omega
    rw [elo, ehi, or_sh (by omega) (by omega) (by omega) (by omega), sh51]
    have : (c + r) / 18446744073709551616 * 18446744073709551616 + (c + r) % 18446744073709551616 = c + r := by omega
    rw [this]
    congr 1
    omega

theorem outI_eq {R : Nat → Int} (h : ∀ i, i < 5 → 0 ≤ R i ∧ R i ≤ 1000000000000000000000000000000000) {i : Nat} (hi : i < 5) : outI R i = dig B51 R i := by
  obtain ⟨h1, h2, h3⟩ := ch_eq h (i := i) (by omega)
  have hr := h i hi
  unfold outI lowI dig
  rw [h3]
  simp only
  rw [mask51 (by omega) (by omega)]
  unfold B51
  omega

/-- The limbs ahead of the last carrying. -/
def mulR (R : Nat → Int) (i : Nat) : Int :=
  bif Nat.beq i 0 then (dig B51 R 0 + 19 * car B51 R 5) % 2251799813685248 else bif Nat.beq i 1 then dig B51 R 1 + (dig B51 R 0 + 19 * car B51 R 5) / 2251799813685248 else dig B51 R i

theorem mulL_eq {R : Nat → Int} (h : ∀ i, i < 5 → 0 ≤ R i ∧ R i ≤ 1000000000000000000000000000000000) : mulL R = cellsI .u64 5 (mulR R) := by
  obtain ⟨h1, h2, h3⟩ := ch_eq h (i := 5) (by omega)
  have d := fun i => dig_range (B := B51) (by decide) R i
  have d0 := d 0
  have d1 := d 1
  have hB : B51 = 2251799813685248 := rfl
  have e : cellsI .u64 5 (mulR R) = [.int .u64 (mulR R 0), .int .u64 (mulR R 1), .int .u64 (mulR R 2), .int .u64 (mulR R 3), .int .u64 (mulR R 4)] := rfl
  rw [e]
  have z : lowZ R = (dig B51 R 0 + 19 * car B51 R 5) % 18446744073709551616 := by
    unfold lowZ
    rw [h3, outI_eq h (by omega)]
    simp only
    generalize car B51 R 5 = c at *
    generalize dig B51 R 0 = g at *
    omega
  have zh : highZ R = (dig B51 R 0 + 19 * car B51 R 5) / 18446744073709551616 := by
    unfold highZ
    rw [h3, outI_eq h (by omega)]
    simp only [wrap_u64]
    generalize car B51 R 5 = c at *
    generalize dig B51 R 0 = g at *
    omega
  unfold mulL
  rw [outI_eq h (by omega), outI_eq h (by omega), outI_eq h (by omega), outI_eq h (by omega), or_sh (by rw [z]; omega) (by rw [z]; omega) (by rw [zh]; omega) (by rw [zh]; omega), z, zh, mask51 (by omega) (by omega)]
  simp only [mulR, Nat.beq, cond_true, cond_false, wrap_u64]
  generalize car B51 R 5 = c at *
  generalize dig B51 R 0 = g at *
  generalize dig B51 R 1 = g1 at *
  have q1 : (g + 19 * c) % 18446744073709551616 % 2251799813685248 = (g + 19 * c) % 2251799813685248 := by omega
  have q2 : (g1 + ((g + 19 * c) / 18446744073709551616 * 18446744073709551616 + (g + 19 * c) % 18446744073709551616) / 2251799813685248 % 18446744073709551616) % 18446744073709551616 = g1 + (g + 19 * c) / 2251799813685248 := by omega
  rw [q1, q2]

theorem mulR_bd {R : Nat → Int} (h : ∀ i, i < 5 → 0 ≤ R i ∧ R i ≤ 1000000000000000000000000000000000) : Bd 9223372036854775807 (mulR R) := by
  obtain ⟨h1, h2, h3⟩ := ch_eq h (i := 5) (by omega)
  have hB : B51 = 2251799813685248 := rfl
  intro i hi
  have d0 := dig_range (B := B51) (by decide) R 0
  have d1 := dig_range (B := B51) (by decide) R 1
  have di := dig_range (B := B51) (by decide) R i
  unfold mulR
  cases Nat.beq i 0 <;> cases Nat.beq i 1 <;> simp only [cond_true, cond_false] <;> omega

theorem mulR_val (R : Nat → Int) : val B51 (mulR R) 5 = val B51 R 5 - pF * car B51 R 5 := by
  have h := dig_val (B := B51) (t := R) (n := 5)
  have hB : B51 ^ 5 = pF + 19 := by decide
  rw [hB] at h
  rw [val5] at h ⊢
  simp only [mulR, Nat.beq, cond_true, cond_false]
  have e : (dig B51 R 0 + 19 * car B51 R 5) % 2251799813685248 + ((dig B51 R 0 + 19 * car B51 R 5) / 2251799813685248) * 2251799813685248 = dig B51 R 0 + 19 * car B51 R 5 := by omega
  have eB : B51 = 2251799813685248 := rfl
  generalize (dig B51 R 0 + 19 * car B51 R 5) % 2251799813685248 = u at *
  generalize (dig B51 R 0 + 19 * car B51 R 5) / 2251799813685248 = v at *
  rw [← eB] at e
  grind

/-- The product. -/
def mulE (x y : Nat → Int) : Nat → Int := carE (mulR (Rx x y))

theorem Rx_bd {x y : Nat → Int} (hx : Bd RB x) (hy : Bd RB y) : ∀ i, i < 5 → 0 ≤ Rx x y i ∧ Rx x y i ≤ 1000000000000000000000000000000000 := fun i hi => by
  have := VV_bd hx hy hi (i := 5) (Nat.le_refl 5)
  rw [VV_eq hx hy hi] at this
  omega

theorem car_congr {B : Int} {s t : Nat → Int} : ∀ {n : Nat}, (∀ i, i < n → s i = t i) → car B s n = car B t n := by
  intro n
  induction n with
  | zero => intro _; rfl
  | succ n ih => intro h; simp only [car]; rw [ih fun i hi => h i (by omega), h n (by omega)]

theorem dig_congr {B : Int} {s t : Nat → Int} {n : Nat} (h : ∀ i, i ≤ n → s i = t i) : dig B s n = dig B t n := by
  unfold dig; rw [car_congr fun i hi => h i (by omega), h n (by omega)]

theorem mulR_congr {R S : Nat → Int} (h : ∀ i, i < 5 → R i = S i) : ∀ i, i < 5 → mulR R i = mulR S i := fun i hi => by
  unfold mulR
  rw [car_congr h, dig_congr (s := R) (t := S) (n := 0) fun k hk => h k (by omega), dig_congr (s := R) (t := S) (n := 1) fun k hk => h k (by omega), dig_congr (s := R) (t := S) (n := i) fun k hk => h k (by omega)]

theorem carE_congr {x y : Nat → Int} (h : ∀ i, i < 5 → x i = y i) : ∀ i, i < 5 → carE x i = carE y i := fun i hi => by
  unfold carE
  rw [car_congr h, dig_congr fun k hk => h k (by omega)]

theorem mulE_bd {x y : Nat → Int} (hx : Bd RB x) (hy : Bd RB y) : Bd RB (mulE x y) := carE_rb (mulR_bd (Rx_bd hx hy))

theorem mulE_val (x y : Nat → Int) : ∃ q, val B51 (mulE x y) 5 = val B51 x 5 * val B51 y 5 + pF * q := by
  obtain ⟨q, hq⟩ := Rx_val x y
  refine ⟨- q - car B51 (Rx x y) 5 - car B51 (mulR (Rx x y)) 5, ?_⟩
  unfold mulE
  rw [carE_val, mulR_val, hq]
  grind

theorem leB_iff {K : Int} {n : Nat} {k : IntKind} {x : Nat → Int} : leB K (cellsI k n x) = true ↔ ∀ i, i < n → 0 ≤ x i ∧ x i ≤ K := by
  simp only [leB, List.all_eq_true, Bool.and_eq_true, decide_eq_true_eq]
  simp only [cellsI, List.mem_map, List.mem_range]
  constructor
  · intro h i hi
    exact h _ ⟨i, hi, rfl⟩
  · rintro h v ⟨i, hi, rfl⟩
    exact h i hi

theorem mulPins_held {x y : Nat → Int} (hx : Bd RB x) (hy : Bd RB y) : Held (mulPins x y) := by
  have hr : ∀ n : Int, 0 ≤ n → n ≤ 18446744073709551615 → IntKind.u64.has n := fun n p q => ⟨p, q⟩
  have hR : ∀ i, i < 5 → 0 ≤ VV x y 5 i ∧ VV x y 5 i ≤ 1000000000000000000000000000000000 := fun i hi => by
    have := VV_bd hx hy hi (i := 5) (Nat.le_refl 5)
    omega
  intro p hp
  unfold mulPins at hp
  rcases List.mem_append.1 hp with hp | hp
  · unfold plusPins at hp
    simp only [List.mem_flatMap, List.mem_map, List.mem_range] at hp
    obtain ⟨i, hi, k, hk, rfl⟩ := hp
    simp only
    have hj : jj i k < 5 := by
      unfold jj
      cases hb : Nat.blt (i + k) 5 with
      | true => have := Nat.blt_eq.mp hb; simpa using this
      | false => simp only [cond_false]; omega
    have hv := VV_bd hx hy hj (i := i) (by omega)
    have hxi := hx i hi
    have hyk := hy k hk
    have hw : 0 ≤ wx x i k ∧ wx x i k ≤ 42784196462510080 ∧ wx x i k * y k ≤ 192682891234690869027498887217152 := by
      have hp := prod_bd hx hy hi hk
      have hRB : RB = 2251799813816320 := rfl
      unfold wx
      cases Nat.blt (i + k) 5 with
      | true => simp only [cond_true]; exact ⟨hxi.1, by omega, by omega⟩
      | false =>
        simp only [cond_false]
        rw [wrap19 hx hi]
        have e : x i * 19 * y k = 19 * (x i * y k) := by grind
        rw [e]
        exact ⟨by omega, by omega, by omega⟩
    have hRB : RB = 2251799813816320 := rfl
    simp only [plusB, Bool.and_eq_true, hasB_iff, decide_eq_true_eq]
    generalize VV x y i (jj i k) = V at *
    generalize wx x i k * y k = W at *
    have hi5 : (i : Int) ≤ 5 := by omega
    refine ⟨hr _ (by omega) (by omega), hr _ (by omega) (by omega), hr _ hw.1 (by omega), hr _ hyk.1 (by omega), by omega⟩
  · rcases List.mem_append.1 hp with hp | hp
    · unfold addPins at hp
      simp only [List.mem_flatMap, List.mem_range, List.mem_cons, List.not_mem_nil, or_false] at hp
      obtain ⟨i, hi, hp⟩ := hp
      obtain ⟨h1, h2, h3⟩ := ch_eq hR (i := i) (by omega)
      have hv := hR i hi
      rw [h3] at hp
      generalize VV x y 5 i = V at *
      generalize car B51 (VV x y 5) i = c at *
      rcases hp with rfl | rfl
      · exact addB_iff.2 ⟨hr _ (by omega) (by omega), hr _ (by omega) (by simp only; omega), by omega, by omega⟩
      · exact addB_iff.2 ⟨hr _ (by omega) (by omega), hr _ (by simp only; omega) (by simp only; omega), by simp only; omega, by simp only; omega⟩
    · obtain ⟨h1, h2, h3⟩ := ch_eq hR (i := 5) (by omega)
      have h0 := outI_eq hR (i := 0) (by omega)
      have hd := dig_range (B := B51) (by decide) (VV x y 5) 0
      have hB : B51 = 2251799813685248 := rfl
      simp only [List.mem_cons, List.not_mem_nil, or_false] at hp
      rcases hp with rfl | rfl | rfl
      · rw [h3]
        simp only [Bool.and_eq_true, hasB_iff]
        exact ⟨hr _ (by omega) (by omega), by decide, by decide⟩
      · rw [h3, h0]
        exact addB_iff.2 ⟨hr _ (by omega) (by omega), hr _ (by omega) (by omega), by omega, by omega⟩
      · simp only
        rw [mulL_eq hR, leB_iff]
        exact mulR_bd hR

theorem mulL_mulR {x y : Nat → Int} (hx : Bd RB x) (hy : Bd RB y) : cellsI .u64 5 (carE (wd (mulL (VV x y 5)))) = cellsI .u64 5 (mulE x y) := by
  have hR : ∀ i, i < 5 → 0 ≤ VV x y 5 i ∧ VV x y 5 i ≤ 1000000000000000000000000000000000 := fun i hi => by
    have := VV_bd hx hy hi (i := 5) (Nat.le_refl 5)
    omega
  refine cellsI_congr fun i hi => ?_
  unfold mulE
  refine carE_congr (fun k hk => ?_) i hi
  rw [mulL_eq hR, wd_cellsI hk]
  exact mulR_congr (fun m hm => VV_eq hx hy hm) k hk

end Go.Num

namespace Go.Num
open Go.Ab

def W8 (x : Nat → Int) (f : Nat) : Int := val 256 (fun i => x (f + i)) 8

/-- As the program reads. -/
def loadI (x : Nat → Int) : List Value :=
  let m := fun a : Int => bits .and .u64 a 2251799813685247
  let o := bits .or .u64
  let w := IntKind.u64.wrap
  [.int .u64 (m (W8 x 0)), .int .u64 (m (o ((W8 x 0).fdiv (2 ^ 51)) (w (W8 x 8 * 2 ^ 13)))), .int .u64 (m (o ((W8 x 8).fdiv (2 ^ 38)) (w (W8 x 16 * 2 ^ 26)))), .int .u64 (m (o ((W8 x 16).fdiv (2 ^ 25)) (w (W8 x 24 * 2 ^ 39)))), .int .u64 ((W8 x 24).fdiv (2 ^ 12))]

/-- The limbs of a number of 256 bits. -/
def limbs (N : Int) (i : Nat) : Int := bif Nat.beq i 0 then N % 2251799813685248 else bif Nat.beq i 1 then N / 2251799813685248 % 2251799813685248 else
  bif Nat.beq i 2 then N / 5070602400912917605986812821504 % 2251799813685248 else bif Nat.beq i 3 then N / 11417981541647679048466287755595961091061972992 % 2251799813685248 else N / 25711008708143844408671393477458601640355247900524685364822016

theorem limbs_val (N : Int) : val B51 (limbs N) 5 = N := by
  rw [val5]
  have e1 : B51 = 2251799813685248 := rfl
  have e2 : B51 ^ 2 = 5070602400912917605986812821504 := by decide
  have e3 : B51 ^ 3 = 11417981541647679048466287755595961091061972992 := by decide
  have e4 : B51 ^ 4 = 25711008708143844408671393477458601640355247900524685364822016 := by decide
  rw [e2, e3, e4, e1]
  simp only [limbs, Nat.beq, cond_true, cond_false]
  omega

def Dg (B : Int) (n : Nat) (x : Nat → Int) : Prop := ∀ i, i < n → 0 ≤ x i ∧ x i < B

theorem u8_dg {x : Nat → Int} (h : ∀ i, IntKind.u8.has (x i)) (n : Nat) : Dg 256 n x := fun i _ => by have := has_u8 (h i); omega

theorem W8_range {x : Nat → Int} (h : ∀ i, IntKind.u8.has (x i)) (f : Nat) : 0 ≤ W8 x f ∧ W8 x f < 18446744073709551616 := by
  have := val_range (B := 256) (by decide) (d := fun i => x (f + i)) (n := 8) fun i _ => by have := has_u8 (h (f + i)); omega
  exact this

theorem val_W8 (x : Nat → Int) : val 256 x 32 = W8 x 0 + 18446744073709551616 * (W8 x 8 + 18446744073709551616 * (W8 x 16 + 18446744073709551616 * W8 x 24)) := by
  have e1 := val_split (B := 256) (t := x) (m := 8) (n := 24)
  have e2 := val_split (B := 256) (t := fun i => x (8 + i)) (m := 8) (n := 16)
  have e3 := val_split (B := 256) (t := fun i => x (8 + (8 + i))) (m := 8) (n := 8)
  have hB : (256 : Int) ^ 8 = 18446744073709551616 := by decide
  rw [hB] at e1 e2 e3
  have a0 : W8 x 0 = val 256 x 8 := val_congr fun i _ => by rw [Nat.zero_add]
  have a2 : (fun i => x (8 + (8 + i))) = fun i => x (16 + i) := funext fun i => by rw [← Nat.add_assoc]
  have a3 : (fun i => x (8 + (8 + (8 + i)))) = fun i => x (24 + i) := funext fun i => by rw [← Nat.add_assoc, ← Nat.add_assoc]
  rw [show 32 = 8 + 24 from rfl, e1, e2, e3, a0, a2, a3]
  rfl

theorem mask51_or {a b : Int} {k : Nat} (ha : 0 ≤ a) (hak : a < 2 ^ k) (hb : 0 ≤ b) (hb2 : b < 18446744073709551616) (hk : k ≤ 63) : bits .and .u64 (bits .or .u64 a (IntKind.u64.wrap (b * 2 ^ k))) 2251799813685247 = (a + b * 2 ^ k) % 2251799813685248 := by
  have hp : (0 : Int) < 2 ^ k := Int.pow_pos (by omega)
  have hp2 : (0 : Int) < 2 ^ (64 - k) := Int.pow_pos (by omega)
  have e64 : (2 : Int) ^ k * 2 ^ (64 - k) = 18446744073709551616 := by rw [← Int.pow_add, show k + (64 - k) = 64 by omega]; decide
  have hle : (2 : Int) ^ k ≤ 18446744073709551616 := by
    rw [← e64]
    have : (2 : Int) ^ k * 1 ≤ 2 ^ k * 2 ^ (64 - k) := Int.mul_le_mul_of_nonneg_left (by omega) (by omega)
    omega
  have e : IntKind.u64.wrap (b * 2 ^ k) = b % 2 ^ (64 - k) * 2 ^ k := by
    rw [wrap_u64, ← e64, Int.mul_comm b, Int.mul_emod_mul_of_pos _ _ hp, Int.mul_comm]
  have hr := Int.emod_nonneg b (Int.ne_of_gt hp2)
  have hr2 := Int.emod_lt_of_pos b hp2
  have hlt : b % 2 ^ (64 - k) * 2 ^ k + 2 ^ k ≤ 18446744073709551616 := by
    rw [← e64]
    have : (b % 2 ^ (64 - k) + 1) * 2 ^ k ≤ 2 ^ (64 - k) * 2 ^ k := Int.mul_le_mul_of_nonneg_right (by omega) (by omega)
    rw [Int.mul_comm (2 ^ k)]
    rw [Int.add_mul] at this
    omega
  have hge : 0 ≤ b % 2 ^ (64 - k) * 2 ^ k := Int.mul_nonneg hr (by omega)
  rw [e, or_comm64, or_add64 hr (by omega) ha hak (by omega), mask51 (by omega) (by omega)]
  have hm : b * 2 ^ k = b % 2 ^ (64 - k) * 2 ^ k + 18446744073709551616 * (b / 2 ^ (64 - k)) := by
    rw [← e64]
    have := Int.mul_ediv_add_emod b (2 ^ (64 - k))
    generalize b / 2 ^ (64 - k) = q at *
    generalize b % 2 ^ (64 - k) = r at *
    rw [← this]
    grind
  rw [hm]
  omega

theorem loadI_eq {x : Nat → Int} (h : ∀ i, IntKind.u8.has (x i)) : loadI x = cellsI .u64 5 (limbs (val 256 x 32)) := by
  have a0 := W8_range h 0; have a1 := W8_range h 8; have a2 := W8_range h 16; have a3 := W8_range h 24
  have e : cellsI .u64 5 (limbs (val 256 x 32)) = [.int .u64 (limbs (val 256 x 32) 0), .int .u64 (limbs (val 256 x 32) 1), .int .u64 (limbs (val 256 x 32) 2), .int .u64 (limbs (val 256 x 32) 3), .int .u64 (limbs (val 256 x 32) 4)] := rfl
  rw [e, val_W8]
  simp only [loadI]
  rw [Int.fdiv_eq_ediv_of_nonneg _ (show (0 : Int) ≤ 2 ^ 51 by decide), Int.fdiv_eq_ediv_of_nonneg _ (show (0 : Int) ≤ 2 ^ 38 by decide), Int.fdiv_eq_ediv_of_nonneg _ (show (0 : Int) ≤ 2 ^ 25 by decide), Int.fdiv_eq_ediv_of_nonneg _ (show (0 : Int) ≤ 2 ^ 12 by decide)]
  rw [mask51 (by omega) (by omega), mask51_or (k := 13) (by omega) (by omega) (by omega) (by omega) (by omega), mask51_or (k := 26) (by omega) (by omega) (by omega) (by omega) (by omega), mask51_or (k := 39) (by omega) (by omega) (by omega) (by omega) (by omega)]
  simp only [limbs, Nat.beq, cond_true, cond_false, Int.reducePow]
  generalize W8 x 0 = p at *
  generalize W8 x 8 = q at *
  generalize W8 x 16 = r at *
  generalize W8 x 24 = s at *
  simp only [List.cons.injEq, Value.int.injEq, true_and, and_true]
  refine ⟨?_, ?_, ?_, ?_, ?_⟩ <;> omega

theorem limbs_bd {N : Int} (h : 0 ≤ N) (h2 : N < 115792089237316195423570985008687907853269984665640564039457584007913129639936) : Bd 4503599627370496 (limbs N) := fun i hi => by
  unfold limbs
  cases Nat.beq i 0 <;> cases Nat.beq i 1 <;> cases Nat.beq i 2 <;> cases Nat.beq i 3 <;> simp only [cond_true, cond_false] <;> omega

/-- Nineteen added and carried. -/
def bI (y : Nat → Int) : Nat → Int
  | 0 => IntKind.u64.wrap (y 0 + 19)
  | i + 1 => IntKind.u64.wrap (y (i + 1) + (bI y i).fdiv (2 ^ 51))
def cB (y : Nat → Int) : Bool := (bI y 4).fdiv (2 ^ 51) != 0
def maskL (y : Nat → Int) (i : Nat) : Int := bits .and .u64 (bI y i) 2251799813685247
def oI (y : Nat → Int) (j : Nat) : Int :=
  bif Nat.beq j 0 then bits .or .u64 (y 0) (IntKind.u64.wrap (y 1 * 2 ^ 51)) else
  bif Nat.beq j 1 then bits .or .u64 ((y 1).fdiv (2 ^ 13)) (IntKind.u64.wrap (y 2 * 2 ^ 38)) else
  bif Nat.beq j 2 then bits .or .u64 ((y 2).fdiv (2 ^ 26)) (IntKind.u64.wrap (y 3 * 2 ^ 25)) else
  bits .or .u64 ((y 3).fdiv (2 ^ 39)) (IntKind.u64.wrap (y 4 * 2 ^ 12))
def outW (y : Nat → Int) : List Value := (List.range 32).map fun j => .int .u8 (IntKind.u8.wrap ((oI y (j / 8)).fdiv (2 ^ (8 * (j % 8)))))

/-- The 32 bytes of a number. -/
def bytesN (N : Int) : List Value := cellsI .u8 32 fun i => N / 256 ^ i % 256

theorem B5 : B51 ^ 5 = 57896044618658097711785492504343953926634992332820282019728792003956564819968 := by decide
theorem B51e : B51 = 2251799813685248 := rfl

/-- Nineteen more. -/
def t19 (y : Nat → Int) (i : Nat) : Int := bif Nat.beq i 0 then y 0 + 19 else y i

theorem bI_eq {y : Nat → Int} (h : Dg B51 5 y) : ∀ {i : Nat}, i < 5 → bI y i = car B51 (t19 y) i + t19 y i ∧ 0 ≤ bI y i ∧ bI y i ≤ 2251799813685300 := by
  intro i
  rw [Dg, B51e] at h
  induction i with
  | zero =>
    intro hi
    have := h 0 hi
    have e : bI y 0 = y 0 + 19 := by unfold bI; rw [wrap64_id (by omega) (by omega)]
    rw [e]
    simp only [car, t19, Nat.beq, cond_true]
    omega
  | succ i ih =>
    intro hi
    obtain ⟨h1, h2, h3⟩ := ih (by omega)
    have := h (i + 1) hi
    have e : bI y (i + 1) = y (i + 1) + bI y i / 2251799813685248 := by
      show IntKind.u64.wrap (y (i + 1) + (bI y i).fdiv (2 ^ 51)) = _
      rw [sh51, wrap64_id (by omega) (by omega)]
    have c1 : car B51 (t19 y) (i + 1) = (car B51 (t19 y) i + t19 y i) / 2251799813685248 := rfl
    have t1 : t19 y (i + 1) = y (i + 1) := rfl
    rw [e, c1, t1, ← h1]
    generalize bI y i = b at *
    omega

theorem t19_val (y : Nat → Int) : val B51 (t19 y) 5 = val B51 y 5 + 19 := by
  rw [val5, val5]
  simp only [t19, Nat.beq, cond_true, cond_false]
  omega

theorem cB_eq {y : Nat → Int} (h : Dg B51 5 y) : cB y = decide (57896044618658097711785492504343953926634992332820282019728792003956564819949 ≤ val B51 y 5) := by
  obtain ⟨h1, h2, h3⟩ := bI_eq h (i := 4) (by omega)
  have hc := (car_out (B := B51) (by decide) (t := t19 y) (n := 5)).1
  rw [t19_val, B5] at hc
  have hv := val_range (B := B51) (by decide) h
  rw [B5] at hv
  unfold cB
  rw [sh51, h1]
  have e : car B51 (t19 y) 5 = (car B51 (t19 y) 4 + t19 y 4) / 2251799813685248 := rfl
  rw [← e, hc]
  by_cases hp : 57896044618658097711785492504343953926634992332820282019728792003956564819949 ≤ val B51 y 5
  · have : (val B51 y 5 + 19) / 57896044618658097711785492504343953926634992332820282019728792003956564819968 = 1 := by omega
    rw [this, decide_eq_true hp]; rfl
  · have : (val B51 y 5 + 19) / 57896044618658097711785492504343953926634992332820282019728792003956564819968 = 0 := by omega
    rw [this, decide_eq_false hp]; rfl

theorem maskL_eq {y : Nat → Int} (h : Dg B51 5 y) : ∀ i, i < 5 → maskL y i = dig B51 (t19 y) i := fun i hi => by
  obtain ⟨h1, h2, h3⟩ := bI_eq h hi
  unfold maskL dig
  rw [mask51 h2 (by omega), h1]
  rfl

theorem maskL_dg {y : Nat → Int} (h : Dg B51 5 y) : Dg B51 5 (maskL y) := fun i hi => by
  rw [maskL_eq h i hi]; exact dig_range (by decide) _ _

theorem maskL_val {y : Nat → Int} (h : Dg B51 5 y) : val B51 (maskL y) 5 = (val B51 y 5 + 19) % 57896044618658097711785492504343953926634992332820282019728792003956564819968 := by
  rw [val_congr (maskL_eq h), (car_out (B := B51) (by decide)).2, t19_val, B5]

theorem or_shift {a b : Int} {k : Nat} (ha : 0 ≤ a) (hak : a < 2 ^ k) (ha2 : a < 18446744073709551616) (hb : 0 ≤ b) (hb2 : b % 2 ^ (64 - k) * 2 ^ k < 18446744073709551616) (e : IntKind.u64.wrap (b * 2 ^ k) = b % 2 ^ (64 - k) * 2 ^ k) :
    bits .or .u64 a (IntKind.u64.wrap (b * 2 ^ k)) = a + b % 2 ^ (64 - k) * 2 ^ k := by
  rw [e, or_comm64, or_add64 (Int.emod_nonneg _ (Int.ne_of_gt (Int.pow_pos (by omega)))) hb2 ha hak ha2, Int.add_comm]

theorem oI_eq {y : Nat → Int} (h : Dg B51 5 y) : oI y 0 = val B51 y 5 % 18446744073709551616 ∧ oI y 1 = val B51 y 5 / 18446744073709551616 % 18446744073709551616 ∧
    oI y 2 = val B51 y 5 / 340282366920938463463374607431768211456 % 18446744073709551616 ∧ oI y 3 = val B51 y 5 / 6277101735386680763835789423207666416102355444464034512896 % 18446744073709551616 := by
  rw [Dg, B51e] at h
  have h0 := h 0 (by omega); have h1 := h 1 (by omega); have h2 := h 2 (by omega); have h3 := h 3 (by omega); have h4 := h 4 (by omega)
  rw [val5]
  have e1 : B51 = 2251799813685248 := rfl
  have e2 : B51 ^ 2 = 5070602400912917605986812821504 := by decide
  have e3 : B51 ^ 3 = 11417981541647679048466287755595961091061972992 := by decide
  have e4 : B51 ^ 4 = 25711008708143844408671393477458601640355247900524685364822016 := by decide
  rw [e2, e3, e4, e1]
  simp only [oI, Nat.beq, cond_true, cond_false]
  rw [Int.fdiv_eq_ediv_of_nonneg _ (show (0 : Int) ≤ 2 ^ 13 by decide), Int.fdiv_eq_ediv_of_nonneg _ (show (0 : Int) ≤ 2 ^ 26 by decide), Int.fdiv_eq_ediv_of_nonneg _ (show (0 : Int) ≤ 2 ^ 39 by decide)]
  rw [or_shift (k := 51) (by omega) (by omega) (by omega) (by omega) (by omega) (by rw [wrap_u64]; omega), or_shift (k := 38) (by omega) (by omega) (by omega) (by omega) (by omega) (by rw [wrap_u64]; omega),
    or_shift (k := 25) (by omega) (by omega) (by omega) (by omega) (by omega) (by rw [wrap_u64]; omega), or_shift (k := 12) (by omega) (by omega) (by omega) (by omega) (by omega) (by rw [wrap_u64]; omega)]
  refine ⟨?_, ?_, ?_, ?_⟩ <;> simp only [Nat.reduceSub, Int.reducePow] <;> omega

theorem byte_of {W : Int} {b : Nat} (hb : b < 8) : IntKind.u8.wrap ((W % 18446744073709551616).fdiv (2 ^ (8 * b))) = W / 256 ^ b % 256 := by
  rw [wrap_u8, Int.fdiv_eq_ediv_of_nonneg _ (Int.le_of_lt (Int.pow_pos (by omega)))]
  rcases (by omega : b = 0 ∨ b = 1 ∨ b = 2 ∨ b = 3 ∨ b = 4 ∨ b = 5 ∨ b = 6 ∨ b = 7) with rfl | rfl | rfl | rfl | rfl | rfl | rfl | rfl <;> simp only [Nat.reduceMul, Int.reducePow] <;> omega

theorem outW_eq {y : Nat → Int} (h : Dg B51 5 y) : outW y = bytesN (val B51 y 5) := by
  obtain ⟨o0, o1, o2, o3⟩ := oI_eq h
  unfold outW bytesN cellsI
  apply List.map_congr_left
  intro j hj
  have hj := List.mem_range.1 hj
  have key : oI y (j / 8) = val B51 y 5 / 256 ^ (8 * (j / 8)) % 18446744073709551616 := by
    rcases (by omega : j / 8 = 0 ∨ j / 8 = 1 ∨ j / 8 = 2 ∨ j / 8 = 3) with e | e | e | e <;> rw [e]
    · rw [o0]; simp
    · rw [o1]; rfl
    · rw [o2]; rfl
    · rw [o3]; rfl
  rw [key, byte_of (by omega), Int.ediv_ediv_of_nonneg (Int.le_of_lt (Int.pow_pos (by decide))), ← Int.pow_add, show 8 * (j / 8) + j % 8 = j by omega]

theorem val5' (x : Nat → Int) : val B51 x 5 = x 0 + x 1 * 2251799813685248 + x 2 * 5070602400912917605986812821504 + x 3 * 11417981541647679048466287755595961091061972992 + x 4 * 25711008708143844408671393477458601640355247900524685364822016 := by
  have e2 : B51 ^ 2 = 5070602400912917605986812821504 := by decide
  have e3 : B51 ^ 3 = 11417981541647679048466287755595961091061972992 := by decide
  have e4 : B51 ^ 4 = 25711008708143844408671393477458601640355247900524685364822016 := by decide
  rw [val5, e2, e3, e4]
  rfl
theorem dig51 (x : Nat → Int) (i : Nat) : 0 ≤ dig B51 x i ∧ dig B51 x i < 2251799813685248 := dig_range (by decide) x i

/-- Carried twice, the limbs are digits. -/
theorem carE2_dg {x : Nat → Int} (h : Bd 9223372036854775807 x) : Dg B51 5 (carE (carE x)) := by
  obtain ⟨hz, hc0, hc1⟩ := carE_bd (by decide) (by decide) h
  have hd := dig51 x
  have z0 : carE x 0 = dig B51 x 0 + 19 * car B51 x 5 := rfl
  have z1 : carE x 1 = dig B51 x 1 := by simp [carE, Nat.beq]
  have z2 : carE x 2 = dig B51 x 2 := by simp [carE, Nat.beq]
  have z3 : carE x 3 = dig B51 x 3 := by simp [carE, Nat.beq]
  have z4 : carE x 4 = dig B51 x 4 := by simp [carE, Nat.beq]
  have b0 := hz 0 (by omega)
  have hv : 0 ≤ val B51 (carE x) 5 ∧ val B51 (carE x) 5 ≤ 57896044618658097711785492504343953926634992332820282019728792003956564819967 + 77900 := by
    rw [val5', z1, z2, z3, z4]
    have := hd 1; have := hd 2; have := hd 3; have := hd 4
    omega
  have hco := car_out (B := B51) (by decide) (t := carE x) (n := 5)
  rw [B5] at hco
  have hd2 := dig51 (carE x)
  intro i hi
  by_cases hi0 : i = 0
  · subst hi0
    have e : carE (carE x) 0 = dig B51 (carE x) 0 + 19 * car B51 (carE x) 5 := rfl
    have := hd2 0
    rw [e]
    by_cases hc : car B51 (carE x) 5 = 0
    · rw [hc]
      show 0 ≤ _ ∧ _ < (2251799813685248 : Int)
      omega
    · have h1 : car B51 (carE x) 5 = 1 := by omega
      have hdv : val B51 (dig B51 (carE x)) 5 ≤ 77900 := by omega
      have hle : dig B51 (carE x) 0 ≤ val B51 (dig B51 (carE x)) 5 := by
        rw [val5']
        have := hd2 1; have := hd2 2; have := hd2 3; have := hd2 4
        omega
      rw [h1]
      show 0 ≤ _ ∧ _ < (2251799813685248 : Int)
      omega
  · have e : carE (carE x) i = dig B51 (carE x) i := by
      have : Nat.beq i 0 = false := by rw [Bool.eq_false_iff]; exact fun e => hi0 (Nat.eq_of_beq_eq_true e)
      simp [carE, this]
    rw [e]
    exact hd2 i

theorem carE2_val (x : Nat → Int) : ∃ q, val B51 (carE (carE x)) 5 = val B51 x 5 + pF * q := by
  refine ⟨- car B51 x 5 - car B51 (carE x) 5, ?_⟩
  rw [carE_val, carE_val]
  grind

/-- What is written is the least number. -/
theorem out_least {x : Nat → Int} (h : Bd 9223372036854775807 x) :
    (cB (carE (carE x)) = true → cB (maskL (carE (carE x))) = false ∧ outW (maskL (carE (carE x))) = bytesN (val B51 x 5 % pF)) ∧
    (cB (carE (carE x)) = false → outW (carE (carE x)) = bytesN (val B51 x 5 % pF)) := by
  have hy := carE2_dg h
  obtain ⟨q, hq⟩ := carE2_val x
  have hv := val_range (B := B51) (by decide) hy
  rw [B5] at hv
  have hm : val B51 x 5 % pF = val B51 (carE (carE x)) 5 % pF := by rw [hq, Int.add_mul_emod_self_left]
  rw [hm]
  have hp : pF = 57896044618658097711785492504343953926634992332820282019728792003956564819949 := rfl
  rw [cB_eq hy]
  constructor
  · intro hc
    have hc := of_decide_eq_true hc
    have hmv := maskL_val hy
    have e : val B51 (maskL (carE (carE x))) 5 = val B51 (carE (carE x)) 5 % pF := by rw [hmv, hp]; omega
    refine ⟨?_, ?_⟩
    · rw [cB_eq (maskL_dg hy), e, hp]
      rw [decide_eq_false_iff_not]
      omega
    · rw [outW_eq (maskL_dg hy), e]
  · intro hc
    have hc := of_decide_eq_false hc
    rw [outW_eq hy]
    congr 1
    rw [hp]
    omega

end Go.Num

namespace Go.Num
open Go.Ab

def D16 : Int := 65536
theorem D16p : D16 ^ 16 = 115792089237316195423570985008687907853269984665640564039457584007913129639936 := by decide

/-- As the text carries: into digit k, and one pass. -/
def csP (t : Nat → Int) : Nat → Int
  | 0 => 0
  | k + 1 => IntKind.i64.wrap ((IntKind.i64.wrap (csP t k + t k)).tdiv 65536)
def passP (t : Nat → Int) (i : Nat) : Int :=
  bif Nat.beq i 0 then IntKind.i64.wrap ((IntKind.i64.wrap (csP t 0 + t 0)).tmod 65536 + IntKind.i64.wrap (38 * csP t 16)) else (IntKind.i64.wrap (csP t i + t i)).tmod 65536

/-- One pass. -/
def pass (t : Nat → Int) (i : Nat) : Int := dig D16 t i + (bif Nat.beq i 0 then 38 * car D16 t 16 else 0)

theorem w64 {n : Int} (h1 : -9223372036854775808 ≤ n) (h2 : n ≤ 9223372036854775807) : IntKind.i64.wrap n = n := wrap_i64 h1 h2

theorem csP_eq {t : Nat → Int} {T : Int} (hT : T ≤ 100000000000000) (h : ∀ i, i < 16 → 0 ≤ t i ∧ t i ≤ T) : ∀ {k : Nat}, k ≤ 16 → csP t k = car D16 t k ∧ 0 ≤ car D16 t k ∧ car D16 t k ≤ T / 65535 + 1 := by
  intro k
  induction k with
  | zero =>
    intro _
    have := h 0 (by omega)
    exact ⟨rfl, Int.le_refl 0, by show (0 : Int) ≤ _; omega⟩
  | succ k ih =>
    intro hk
    obtain ⟨h1, h2, h3⟩ := ih (by omega)
    have := h k (by omega)
    have e : car D16 t (k + 1) = (car D16 t k + t k) / 65536 := rfl
    simp only [csP, h1]
    rw [w64 (n := car D16 t k + t k) (by omega) (by omega), Int.tdiv_eq_ediv_of_nonneg (by omega), w64 (by omega) (by omega), e]
    exact ⟨rfl, by omega, by omega⟩

theorem passP_eq {t : Nat → Int} {T : Int} (hT : T ≤ 100000000000000) (h : ∀ i, i < 16 → 0 ≤ t i ∧ t i ≤ T) : ∀ i, i < 16 → passP t i = pass t i := fun i hi => by
  obtain ⟨h1, h2, h3⟩ := csP_eq hT h (k := i) (by omega)
  obtain ⟨g1, g2, g3⟩ := csP_eq hT h (k := 16) (by omega)
  have hti := h i hi
  have e : dig D16 t i = (car D16 t i + t i) % 65536 := rfl
  unfold passP pass
  by_cases hi0 : i = 0
  · subst hi0
    simp only [Nat.beq, cond_true]
    rw [h1, g1, w64 (n := car D16 t 0 + t 0) (by omega) (by omega), Int.tmod_eq_emod_of_nonneg (by omega), w64 (n := 38 * car D16 t 16) (by omega) (by omega), e, w64 (by omega) (by omega)]
  · have hb : Nat.beq i 0 = false := by rw [Bool.eq_false_iff]; exact fun e => hi0 (Nat.eq_of_beq_eq_true e)
    rw [hb]
    simp only [cond_false]
    rw [h1, w64 (by omega) (by omega), Int.tmod_eq_emod_of_nonneg (by omega), e, Int.add_zero]

theorem val_upd0 {B : Int} {f : Nat → Int} {c : Int} {n : Nat} (hn : 0 < n) : val B (fun i => f i + (bif Nat.beq i 0 then c else 0)) n = val B f n + c := by
  induction n with
  | zero => omega
  | succ n ih =>
    simp only [val]
    by_cases h : n = 0
    · subst h
      simp [val, Nat.beq]
    · rw [ih (by omega)]
      have hb : Nat.beq n 0 = false := by rw [Bool.eq_false_iff]; exact fun e => h (Nat.eq_of_beq_eq_true e)
      rw [hb]
      simp only [cond_false, Int.add_zero]
      omega

theorem pass_val (t : Nat → Int) : val D16 (pass t) 16 = val D16 t 16 - 2 * pF * car D16 t 16 := by
  have h := dig_val (B := D16) (t := t) (n := 16)
  have e : val D16 (pass t) 16 = val D16 (dig D16 t) 16 + 38 * car D16 t 16 := val_upd0 (by omega)
  rw [D16p] at h
  rw [e]
  unfold pF
  omega

theorem dig16 (t : Nat → Int) (i : Nat) : 0 ≤ dig D16 t i ∧ dig D16 t i < 65536 := dig_range (by decide) t i

theorem pass_range {t : Nat → Int} {T : Int} (hT : T ≤ 100000000000000) (h : ∀ i, i < 16 → 0 ≤ t i ∧ t i ≤ T) : ∀ i, i < 16 → 0 ≤ pass t i ∧ (0 < i → pass t i < 65536) ∧ pass t i ≤ 65535 + 38 * (T / 65535 + 1) := fun i hi => by
  obtain ⟨g1, g2, g3⟩ := csP_eq hT h (k := 16) (by omega)
  have := dig16 t i
  unfold pass
  by_cases hi0 : i = 0
  · subst hi0
    simp only [Nat.beq, cond_true]
    exact ⟨by omega, fun h => by omega, by omega⟩
  · have hb : Nat.beq i 0 = false := by rw [Bool.eq_false_iff]; exact fun e => hi0 (Nat.eq_of_beq_eq_true e)
    rw [hb]
    simp only [cond_false]
    exact ⟨by omega, fun h => by omega, by omega⟩

/-- A number whose lowest digit alone is too large. -/
theorem low_val {z : Nat → Int} {L : Int} (h0 : 0 ≤ z 0 ∧ z 0 ≤ L) (h : ∀ i, i < 16 → 0 < i → 0 ≤ z i ∧ z i < 65536) : 0 ≤ val D16 z 16 ∧ val D16 z 16 ≤ 115792089237316195423570985008687907853269984665640564039457584007913129639935 - 65535 + L := by
  have e : val D16 z 16 = val D16 z 1 + D16 ^ 1 * val D16 (fun i => z (1 + i)) 15 := val_split (m := 1) (n := 15)
  have hr := val_range (B := D16) (by decide) (d := fun i => z (1 + i)) (n := 15) fun i hi => h (1 + i) (by omega) (by omega)
  have e15 : D16 ^ 15 = 1766847064778384329583297500742918515827483896875618958121606201292619776 := by decide
  have e1 : D16 ^ 1 = 65536 := by decide
  rw [e15] at hr
  rw [val_one] at e
  rw [e, e1]
  omega

theorem first_dig {z : Nat → Int} (hz : ∀ i, i < 16 → 0 ≤ dig D16 z i) : dig D16 z 0 ≤ val D16 (dig D16 z) 16 := by
  have e : val D16 (dig D16 z) 16 = val D16 (dig D16 z) 1 + D16 ^ 1 * val D16 (fun i => dig D16 z (1 + i)) 15 := val_split (m := 1) (n := 15)
  have hr := val_range (B := D16) (by decide) (d := fun i => dig D16 z (1 + i)) (n := 15) fun i hi => dig16 z _
  have e1 : D16 ^ 1 = 65536 := by decide
  rw [val_one] at e
  rw [e, e1]
  omega

/-- Three passes. -/
def pass3 (t : Nat → Int) : Nat → Int := pass (pass (pass t))

theorem pass3_dg {t : Nat → Int} (h : ∀ i, i < 16 → 0 ≤ t i ∧ t i ≤ 100000000000000) : Dg 65536 16 (pass3 t) := by
  have a := pass_range (Int.le_refl _) h
  have hz := low_val (z := pass t) (L := 65535 + 38 * (100000000000000 / 65535 + 1)) ⟨(a 0 (by omega)).1, (a 0 (by omega)).2.2⟩ fun i hi h0 => ⟨(a i hi).1, (a i hi).2.1 h0⟩
  have c1 := car_out (B := D16) (by decide) (t := pass t) (n := 16)
  rw [D16p] at c1
  have f1 := first_dig (z := pass t) fun i _ => (dig16 _ i).1
  -- the second pass carries out at most once, and then its lowest digit is small or its number is
  have b1 : 0 ≤ val D16 (pass (pass t)) 16 ∧ val D16 (pass (pass t)) 16 < 115792089237316195423570985008687907853269984665640564039457584007913129639936 := by
    rw [pass_val]
    unfold pF
    omega
  have bz : ∀ i, i < 16 → 0 ≤ pass (pass t) i := fun i hi => by
    have := dig16 (pass t) i
    have h0 : 0 ≤ car D16 (pass t) 16 := by omega
    show 0 ≤ dig D16 (pass t) i + (bif Nat.beq i 0 then 38 * car D16 (pass t) 16 else 0)
    cases Nat.beq i 0 <;> simp only [cond_true, cond_false] <;> omega
  have c2 := car_out (B := D16) (by decide) (t := pass (pass t)) (n := 16)
  rw [D16p] at c2
  have c0 : car D16 (pass (pass t)) 16 = 0 := by omega
  intro i hi
  have := dig16 (pass (pass t)) i
  have e : pass3 t i = dig D16 (pass (pass t)) i := by
    unfold pass3
    rw [pass, c0]
    cases Nat.beq i 0 <;> simp
  rw [e]
  exact this

theorem pass3_val (t : Nat → Int) : ∃ q, val D16 (pass3 t) 16 = val D16 t 16 + pF * q := by
  refine ⟨- 2 * car D16 t 16 - 2 * car D16 (pass t) 16 - 2 * car D16 (pass (pass t)) 16, ?_⟩
  unfold pass3
  rw [pass_val, pass_val, pass_val]
  grind

theorem pass_congr {s t : Nat → Int} (h : ∀ i, i < 16 → s i = t i) : ∀ i, i < 16 → pass s i = pass t i := fun i hi => by
  unfold pass
  rw [car_congr h, dig_congr fun k hk => h k (by omega)]
theorem csP_congr {s t : Nat → Int} : ∀ {k : Nat}, (∀ i, i < k → s i = t i) → csP s k = csP t k := by
  intro k
  induction k with
  | zero => intro _; rfl
  | succ k ih => intro h; simp only [csP]; rw [ih fun i hi => h i (by omega), h k (by omega)]
theorem passP_congr {s t : Nat → Int} (h : ∀ i, i < 16 → s i = t i) : ∀ i, i < 16 → passP s i = passP t i := fun i hi => by
  unfold passP
  rw [csP_congr h, csP_congr (k := i) fun k hk => h k (by omega), csP_congr (k := 0) (s := s) (t := t) fun k hk => by omega, h i hi, h 0 (by omega)]

theorem passP3_eq {t : Nat → Int} (h : ∀ i, i < 16 → 0 ≤ t i ∧ t i ≤ 100000000000000) : ∀ i, i < 16 → passP (passP (passP t)) i = pass3 t i := fun i hi => by
  have a := pass_range (Int.le_refl _) h
  have ha : ∀ i, i < 16 → 0 ≤ pass t i ∧ pass t i ≤ 58000000000 := fun i hi => by have := a i hi; omega
  have b := pass_range (T := 58000000000) (by omega) ha
  have hb : ∀ i, i < 16 → 0 ≤ pass (pass t) i ∧ pass (pass t) i ≤ 40000000 := fun i hi => by have := b i hi; omega
  unfold pass3
  rw [← passP_eq (T := 40000000) (by omega) hb i hi]
  refine passP_congr (fun k hk => ?_) i hi
  rw [← passP_eq (T := 58000000000) (by omega) ha k hk]
  exact passP_congr (fun m hm => passP_eq (Int.le_refl _) h m hm) k hk

theorem pass3_congr {s t : Nat → Int} (h : ∀ i, i < 16 → s i = t i) : ∀ i, i < 16 → pass3 s i = pass3 t i :=
  pass_congr (pass_congr (pass_congr h))

end Go.Num

namespace Go.Num
open Go.Ab

/-- The digits of a product ahead of carrying. -/
def lowC (x y : Nat → Int) (k : Nat) : Int := convO id x y 16 16 k + 38 * convO id x y 16 16 (k + 16)

def lowW (x y : Nat → Int) (k : Nat) : Int := IntKind.i64.wrap (convO IntKind.i64.wrap x y 16 16 k + IntKind.i64.wrap (38 * convO IntKind.i64.wrap x y 16 16 (k + 16)))

theorem lowW_eq {x y : Nat → Int} (hx : ∀ i, i < 16 → 0 ≤ x i ∧ x i ≤ 65535) (hy : ∀ i, i < 16 → 0 ≤ y i ∧ y i ≤ 65535) : ∀ k, lowW x y k = lowC x y k ∧ 0 ≤ lowC x y k ∧ lowC x y k ≤ 2700000000000 := fun k => by
  have hq : ∀ i j, i < 16 → j < 16 → 0 ≤ x i * y j ∧ x i * y j ≤ 4294836225 := fun i j hi hj => by
    have a := hx i hi
    have b := hy j hj
    refine ⟨Int.mul_nonneg a.1 b.1, ?_⟩
    have := Int.mul_le_mul a.2 b.2 b.1 (by omega : (0 : Int) ≤ 65535)
    simpa using this
  obtain ⟨h1, h2⟩ := convO_le (w := IntKind.i64.wrap) (M := 16) hq (by omega) (fun a ha hb => w64 (by omega) (by omega)) (Nat.le_refl 16)
  have a := h2 k
  have b := h2 (k + 16)
  unfold lowW lowC
  rw [h1, w64 (n := 38 * convO id x y 16 16 (k + 16)) (by omega) (by omega), w64 (by omega) (by omega)]
  exact ⟨rfl, by omega, by omega⟩

theorem lowC_val (x y : Nat → Int) : ∃ q, val D16 (lowC x y) 16 = val D16 x 16 * val D16 y 16 + pF * q := by
  have h := convO_val (B := D16) (x := x) (y := y) (n := 16) (m := 16) (N := 32) (by omega)
  have e : val D16 (convO id x y 16 16) (16 + 16) = _ := val_split (m := 16) (n := 16)
  rw [D16p] at e
  have s : val D16 (lowC x y) 16 = val D16 (convO id x y 16 16) 16 + 38 * val D16 (fun i => convO id x y 16 16 (16 + i)) 16 := by
    unfold lowC
    rw [val_add, val_smul]
    simp only [Nat.add_comm]
  refine ⟨-2 * val D16 (fun i => convO id x y 16 16 (16 + i)) 16, ?_⟩
  rw [s, ← h, e]
  unfold pF
  omega

def mulD (x y : Nat → Int) : Nat → Int := pass3 (lowC x y)

theorem mulD_dg {x y : Nat → Int} (hx : ∀ i, i < 16 → 0 ≤ x i ∧ x i ≤ 65535) (hy : ∀ i, i < 16 → 0 ≤ y i ∧ y i ≤ 65535) : Dg 65536 16 (mulD x y) :=
  pass3_dg fun i hi => by have := lowW_eq hx hy i; omega

theorem mulD_val (x y : Nat → Int) : ∃ q, val D16 (mulD x y) 16 = val D16 x 16 * val D16 y 16 + pF * q := by
  obtain ⟨q, hq⟩ := lowC_val x y
  obtain ⟨r, hr⟩ := pass3_val (lowC x y)
  exact ⟨q + r, by unfold mulD; rw [hr, hq]; grind⟩

def addD (x y : Nat → Int) : Nat → Int := pass3 fun i => x i + y i
/-- Four times the modulus in digits. -/
def c4 (i : Nat) : Int := bif Nat.beq i 0 then 130996 else 131070
def subD (x y : Nat → Int) : Nat → Int := pass3 fun i => x i + c4 i - y i

theorem c4_val : val D16 c4 16 = 4 * pF := by decide +kernel

theorem val_sub {B : Int} {s t : Nat → Int} {n : Nat} : val B (fun i => s i - t i) n = val B s n - val B t n := by
  have e : (fun i => s i - t i) = fun i => s i + (-1) * t i := funext fun i => by omega
  rw [e, val_add (t := fun i => (-1) * t i), val_smul]
  omega

theorem addD_val (x y : Nat → Int) : ∃ q, val D16 (addD x y) 16 = val D16 x 16 + val D16 y 16 + pF * q := by
  obtain ⟨q, hq⟩ := pass3_val fun i => x i + y i
  exact ⟨q, by unfold addD; rw [hq, val_add]⟩
theorem subD_val (x y : Nat → Int) : ∃ q, val D16 (subD x y) 16 = val D16 x 16 - val D16 y 16 + pF * q := by
  obtain ⟨q, hq⟩ := pass3_val fun i => x i + c4 i - y i
  refine ⟨q + 4, ?_⟩
  unfold subD
  rw [hq, val_sub, val_add (t := c4), c4_val]
  grind

/-- The modulus in digits. -/
def mP (i : Nat) : Int := bif Nat.beq i 0 then 65517 else bif Nat.beq i 15 then 32767 else 65535
theorem mP_val : val D16 mP 16 = pF := by decide +kernel

/-- The modulus taken off, digit by digit. -/
def tkP (x : Nat → Int) (i : Nat) : Int := x i - mP i
theorem tkP_val (x : Nat → Int) : val D16 (tkP x) 16 = val D16 x 16 - pF := by
  have : val D16 (tkP x) 16 = val D16 x 16 - val D16 mP 16 := val_sub
  rw [this, mP_val]

/-- Taken off a number that is at least the modulus. -/
theorem tkP_dig {x : Nat → Int} (h : Dg 65536 16 x) (hp : pF ≤ val D16 x 16) : val D16 (dig D16 (tkP x)) 16 = val D16 x 16 - pF := by
  have hv := val_range (B := D16) (by decide) h
  rw [(car_out (B := D16) (by decide)).2, tkP_val]
  exact Int.emod_eq_of_lt (by omega) (by unfold pF at *; omega)

/-- Into a digit when the modulus is taken off, one or nothing is borrowed. -/
theorem tkP_car {x : Nat → Int} (h : Dg 65536 16 x) : ∀ {i : Nat}, i ≤ 16 → -1 ≤ car D16 (tkP x) i ∧ car D16 (tkP x) i ≤ 0 := by
  intro i
  induction i with
  | zero => intro _; exact ⟨show (-1 : Int) ≤ 0 by decide, Int.le_refl 0⟩
  | succ i ih =>
    intro hi
    obtain ⟨h1, h2⟩ := ih (by omega)
    have hx := h i (by omega)
    have hm : 0 ≤ mP i ∧ mP i ≤ 65535 := by unfold mP; cases Nat.beq i 0 <;> cases Nat.beq i 15 <;> simp
    have e : car D16 (tkP x) (i + 1) = (car D16 (tkP x) i + (x i - mP i)) / 65536 := rfl
    rw [e]
    omega

/-- Reading: two bytes a digit. -/
def rdD (x : Nat → Int) (i : Nat) : Int := x (2 * i) + 256 * x (2 * i + 1)
theorem rdD_val (x : Nat → Int) : ∀ n, val D16 (rdD x) n = val 256 x (2 * n) := by
  intro n
  induction n with
  | zero => rfl
  | succ n ih =>
    rw [show 2 * (n + 1) = 2 * n + 1 + 1 by omega]
    simp only [val]
    rw [ih]
    have e : D16 ^ n = 256 ^ (2 * n) := by rw [Int.pow_mul]; rfl
    rw [e, Int.pow_succ]
    unfold rdD
    grind

theorem rdD_dg {x : Nat → Int} (h : ∀ i, IntKind.u8.has (x i)) (n : Nat) : Dg 65536 n (rdD x) := fun i _ => by
  have := has_u8 (h (2 * i)); have := has_u8 (h (2 * i + 1))
  unfold rdD
  omega

/-- Below the modulus, by the digits from the highest down. -/
def lessK (x : Nat → Int) : Nat → Bool
  | 0 => decide (x 0 < 65517)
  | k + 1 => (x (k + 1) != 65535) || lessK x k
def lessD (x : Nat → Int) : Bool := if x 15 != 32767 then decide (x 15 < 32767) else lessK x 14

theorem lessK_eq {x : Nat → Int} : ∀ {k : Nat}, k < 15 → (∀ i, i ≤ k → 0 ≤ x i ∧ x i < 65536) → lessK x k = decide (val D16 x (k + 1) < val D16 mP (k + 1)) := by
  intro k
  induction k with
  | zero =>
    intro _ h
    simp [lessK, val, mP]
  | succ k ih =>
    intro hk h
    have hm : mP (k + 1) = 65535 := by
      have h1 : Nat.beq (k + 1) 0 = false := rfl
      have h2 : Nat.beq (k + 1) 15 = false := by rw [Bool.eq_false_iff]; exact fun e => by have := Nat.eq_of_beq_eq_true e; omega
      simp [mP, h1, h2]
    have hmr := val_range (B := D16) (by decide) (d := mP) (n := k + 1) fun i _ => by
      show 0 ≤ mP i ∧ mP i < 65536
      unfold mP; cases Nat.beq i 0 <;> cases Nat.beq i 15 <;> simp
    have hxr := val_range (B := D16) (by decide) (d := x) (n := k + 1) fun i hi => h i (by omega)
    have hx := h (k + 1) (Nat.le_refl _)
    rw [lessK, ih (by omega) fun i hi => h i (by omega)]
    have v1 : val D16 x (k + 1 + 1) = val D16 x (k + 1) + x (k + 1) * D16 ^ (k + 1) := rfl
    have v2 : val D16 mP (k + 1 + 1) = val D16 mP (k + 1) + mP (k + 1) * D16 ^ (k + 1) := rfl
    rw [v1, v2, hm]
    have hB : (0 : Int) < D16 ^ (k + 1) := Int.pow_pos (by decide)
    generalize D16 ^ (k + 1) = Q at *
    by_cases hd : x (k + 1) = 65535
    · rw [hd]
      simp only [bne_self_eq_false, Bool.false_or, decide_eq_decide]
      omega
    · have hlt : x (k + 1) * Q ≤ 65534 * Q := Int.mul_le_mul_of_nonneg_right (by omega) (by omega)
      have : (x (k + 1) != 65535) = true := by simpa using hd
      rw [this, Bool.true_or]
      symm
      rw [decide_eq_true_eq]
      omega

theorem lessD_eq {x : Nat → Int} (h : Dg 65536 16 x) : lessD x = decide (val D16 x 16 < pF) := by
  have hk := lessK_eq (x := x) (k := 14) (by omega) fun i hi => h i (by omega)
  have hx := h 15 (by omega)
  have hxr := val_range (B := D16) (by decide) (d := x) (n := 15) fun i hi => h i (by omega)
  have e1 : val D16 x 16 = val D16 x 15 + x 15 * D16 ^ 15 := rfl
  have e2 : pF = val D16 mP 15 + 32767 * D16 ^ 15 := by decide +kernel
  have hmr : 0 ≤ val D16 mP 15 ∧ val D16 mP 15 < D16 ^ 15 := by decide +kernel
  have hB : (0 : Int) < D16 ^ 15 := by decide
  unfold lessD
  rw [e1, e2, hk]
  simp only [Nat.reduceAdd]
  generalize val D16 x 15 = X at *
  generalize val D16 mP 15 = Mv at *
  generalize D16 ^ 15 = Q at *
  by_cases hd : x 15 = 32767
  · rw [hd]
    simp
  · have : (x 15 != 32767) = true := by simpa using hd
    rw [this, if_pos rfl]
    rw [decide_eq_decide]
    constructor
    · intro hl
      have hlt : x 15 * Q ≤ 32766 * Q := Int.mul_le_mul_of_nonneg_right (by omega) (by omega)
      omega
    · intro hl
      apply Classical.byContradiction
      intro hn
      have hlt : 32768 * Q ≤ x 15 * Q := Int.mul_le_mul_of_nonneg_right (by omega) (by omega)
      omega

/-- The bytes of the digits. -/
def outD (x : Nat → Int) : List Value := (List.range 32).map fun j => .int .u8 (if j % 2 = 0 then IntKind.u8.wrap ((x (j / 2)).tmod 256) else IntKind.u8.wrap (IntKind.i64.wrap ((x (j / 2)).tdiv 256)))

theorem outD_eq {x : Nat → Int} (h : Dg 65536 16 x) : outD x = bytesN (val D16 x 16) := by
  unfold outD bytesN cellsI
  apply List.map_congr_left
  intro j hj
  have hj := List.mem_range.1 hj
  have hd := val_digit (B := D16) (by decide) (d := x) (k := j / 2) (n := 16) (by omega) h
  have hx := h (j / 2) (by omega)
  have e : D16 ^ (j / 2) = 256 ^ (2 * (j / 2)) := by rw [Int.pow_mul]; rfl
  congr 1
  show _ = val D16 x 16 / 256 ^ j % 256
  rw [Int.tmod_eq_emod_of_nonneg hx.1, Int.tdiv_eq_ediv_of_nonneg hx.1, w64 (by omega) (by omega), wrap_u8, wrap_u8, hd, e]
  show (if j % 2 = 0 then val D16 x 16 / 256 ^ (2 * (j / 2)) % 65536 % 256 % 256 else val D16 x 16 / 256 ^ (2 * (j / 2)) % 65536 / 256 % 256) = _
  by_cases h2 : j % 2 = 0
  · rw [if_pos h2, show 2 * (j / 2) = j by omega]
    omega
  · rw [if_neg h2]
    have e2 : (256 : Int) ^ j = 256 ^ (2 * (j / 2)) * 256 := by rw [← Int.pow_succ]; congr 1; omega
    rw [e2, ← Int.ediv_ediv_of_nonneg (Int.le_of_lt (Int.pow_pos (by decide)))]
    omega

end Go.Num

namespace Go.Num
open Go.Ab

/-- The same modulo the field's prime. -/
def Eqp (a b : Int) : Prop := ∃ q, a = b + pF * q

theorem Eqp.refl (a : Int) : Eqp a a := ⟨0, by simp⟩
theorem Eqp.symm {a b : Int} (h : Eqp a b) : Eqp b a := by obtain ⟨q, h⟩ := h; exact ⟨-q, by rw [h]; grind⟩
theorem Eqp.trans {a b c : Int} (h : Eqp a b) (k : Eqp b c) : Eqp a c := by obtain ⟨q, h⟩ := h; obtain ⟨r, k⟩ := k; exact ⟨q + r, by rw [h, k]; grind⟩
theorem Eqp.add {a b c d : Int} (h : Eqp a b) (k : Eqp c d) : Eqp (a + c) (b + d) := by obtain ⟨q, h⟩ := h; obtain ⟨r, k⟩ := k; exact ⟨q + r, by rw [h, k]; grind⟩
theorem Eqp.sub {a b c d : Int} (h : Eqp a b) (k : Eqp c d) : Eqp (a - c) (b - d) := by obtain ⟨q, h⟩ := h; obtain ⟨r, k⟩ := k; exact ⟨q - r, by rw [h, k]; grind⟩
theorem Eqp.mul {a b c d : Int} (h : Eqp a b) (k : Eqp c d) : Eqp (a * c) (b * d) := by obtain ⟨q, h⟩ := h; obtain ⟨r, k⟩ := k; exact ⟨b * r + q * d + pF * q * r, by rw [h, k]; grind⟩
theorem Eqp.mod {a b : Int} (h : Eqp a b) : a % pF = b % pF := by obtain ⟨q, h⟩ := h; rw [h, Int.add_mul_emod_self_left]
theorem Eqp.of_mod {a b : Int} (h : a % pF = b % pF) : Eqp a b := ⟨a / pF - b / pF, by
  have h1 := Int.mul_ediv_add_emod a pF
  have h2 := Int.mul_ediv_add_emod b pF
  rw [Int.mul_sub]
  omega⟩

def addE (x y : Nat → Int) : Nat → Int := carE fun i => x i + y i
def cS (i : Nat) : Int := bif Nat.beq i 0 then 4503599627370458 else 4503599627370494
def subE (x y : Nat → Int) : Nat → Int := carE fun i => x i + (cS i - carE y i)

theorem addE_bd {x y : Nat → Int} (hx : Bd RB x) (hy : Bd RB y) : Bd RB (addE x y) := carE_rb fun i hi => by have := hx i hi; have := hy i hi; unfold RB at *; omega
theorem cS_range (i : Nat) : 4503599627370458 ≤ cS i ∧ cS i ≤ 4503599627370494 := by unfold cS; cases Nat.beq i 0 <;> simp
theorem sub_bd {x y : Nat → Int} (hx : Bd RB x) (hy : Bd RB y) : Bd 9223372036854775807 (fun i => x i + (cS i - carE y i)) := fun i hi => by
  have := hx i hi
  have := carE_rb (bd_mono (K := RB) (by decide) hy) i hi
  have := cS_range i
  unfold RB at *
  simp only
  omega
theorem subE_bd {x y : Nat → Int} (hx : Bd RB x) (hy : Bd RB y) : Bd RB (subE x y) := carE_rb (sub_bd hx hy)

theorem carE_eqp (x : Nat → Int) : Eqp (val B51 (carE x) 5) (val B51 x 5) := ⟨- car B51 x 5, by rw [carE_val]; grind⟩
theorem addE_eqp (x y : Nat → Int) : Eqp (val B51 (addE x y) 5) (val B51 x 5 + val B51 y 5) := by
  have := carE_eqp fun i => x i + y i
  rwa [val_add] at this
theorem cS_val : val B51 cS 5 = 2 * pF := by decide +kernel
theorem subE_eqp (x y : Nat → Int) : Eqp (val B51 (subE x y) 5) (val B51 x 5 - val B51 y 5) := by
  have h1 := carE_eqp fun i => x i + (cS i - carE y i)
  rw [val_add (t := fun i => cS i - carE y i), val_sub, cS_val] at h1
  have h2 : Eqp (val B51 x 5 + (2 * pF - val B51 (carE y) 5)) (val B51 x 5 + (0 - val B51 y 5)) := (Eqp.refl _).add (Eqp.sub ⟨2, by grind⟩ (carE_eqp y))
  have e : val B51 x 5 + (0 - val B51 y 5) = val B51 x 5 - val B51 y 5 := by omega
  rw [e] at h2
  exact h1.trans h2
theorem mulE_eqp (x y : Nat → Int) : Eqp (val B51 (mulE x y) 5) (val B51 x 5 * val B51 y 5) := mulE_val x y
theorem mulD_eqp (x y : Nat → Int) : Eqp (val D16 (mulD x y) 16) (val D16 x 16 * val D16 y 16) := mulD_val x y
theorem addD_eqp (x y : Nat → Int) : Eqp (val D16 (addD x y) 16) (val D16 x 16 + val D16 y 16) := addD_val x y
theorem subD_eqp (x y : Nat → Int) : Eqp (val D16 (subD x y) 16) (val D16 x 16 - val D16 y 16) := subD_val x y

/-! ### The ladder -/
structure Pt where
  x : Int
  z : Int

def sq (a : Int) : Int := a * a
def dbl (p : Pt) : Pt :=
  let aa := sq (p.x + p.z)
  let bb := sq (p.x - p.z)
  ⟨aa * bb, (aa - bb) * (aa + 121665 * (aa - bb))⟩
def dadd (p q : Pt) (u : Int) : Pt :=
  ⟨sq ((q.x - q.z) * (p.x + p.z) + (q.x + q.z) * (p.x - p.z)), u * sq ((q.x - q.z) * (p.x + p.z) - (q.x + q.z) * (p.x - p.z))⟩

theorem dadd_comm (p q : Pt) (u : Int) : dadd p q u = dadd q p u := by
  simp only [dadd, sq, Pt.mk.injEq]
  constructor <;> grind

/-- The pair of points behind n bits. -/
def lad (b : Nat → Bool) (u : Int) : Nat → Pt × Pt
  | 0 => (⟨1, 0⟩, ⟨u, 1⟩)
  | n + 1 =>
    let p := lad b u n
    if b (254 - n) then (dadd p.1 p.2 u, dbl p.2) else (dbl p.1, dadd p.1 p.2 u)

/-- The power p - 2. -/
def pwr (a : Int) : Nat → Int
  | 0 => 1
  | n + 1 => if n = 252 ∨ n = 250 then pwr a n * pwr a n else pwr a n * pwr a n * a

/-- Bit n of a clamped scalar. -/
def bitF (k : Nat → Int) (n : Nat) : Bool := if n = 255 ∨ n < 3 then false else if n = 254 then true else decide (k (n / 8) / 2 ^ (n % 8) % 2 = 1)

/-- The product, as a number. -/
def smF (k : Nat → Int) (u : Int) : Int := (lad (bitF k) u 255).1.x * pwr (lad (bitF k) u 255).1.z 255

def EqP (p q : Pt) : Prop := Eqp p.x q.x ∧ Eqp p.z q.z

theorem dbl_eqp {p q : Pt} (h : EqP p q) : EqP (dbl p) (dbl q) := by
  have a := (h.1.add h.2).mul (h.1.add h.2)
  have b := (h.1.sub h.2).mul (h.1.sub h.2)
  have e := a.sub b
  exact ⟨a.mul b, e.mul (a.add ((Eqp.refl 121665).mul e))⟩
theorem dadd_eqp {p q p' q' : Pt} {u u' : Int} (h : EqP p p') (k : EqP q q') (hu : Eqp u u') : EqP (dadd p q u) (dadd p' q' u') := by
  have a := (k.1.sub k.2).mul (h.1.add h.2)
  have b := (k.1.add k.2).mul (h.1.sub h.2)
  exact ⟨(a.add b).mul (a.add b), hu.mul ((a.sub b).mul (a.sub b))⟩

theorem lad_eqp {b : Nat → Bool} {u u' : Int} (h : Eqp u u') : ∀ n, EqP (lad b u n).1 (lad b u' n).1 ∧ EqP (lad b u n).2 (lad b u' n).2 := by
  intro n
  induction n with
  | zero => exact ⟨⟨.refl _, .refl _⟩, ⟨h, .refl _⟩⟩
  | succ n ih =>
    simp only [lad]
    split
    · exact ⟨dadd_eqp ih.1 ih.2 h, dbl_eqp ih.2⟩
    · exact ⟨dbl_eqp ih.1, dadd_eqp ih.1 ih.2 h⟩

theorem pwr_eqp {a b : Int} (h : Eqp a b) : ∀ n, Eqp (pwr a n) (pwr b n) := by
  intro n
  induction n with
  | zero => exact .refl _
  | succ n ih =>
    simp only [pwr]
    split
    · exact ih.mul ih
    · exact (ih.mul ih).mul h

end Go.Num

namespace Go.Num

def Pr (p : Nat) : Prop := 2 ≤ p ∧ ∀ d, d ∣ p → d = 1 ∨ d = p

theorem Pr.coprime {p a : Nat} (hp : Pr p) (h : ¬ p ∣ a) : Nat.Coprime p a := by
  rcases hp.2 (Nat.gcd p a) (Nat.gcd_dvd_left p a) with h1 | h1
  · exact h1
  · exact absurd (h1 ▸ Nat.gcd_dvd_right p a) h

theorem Pr.dvd_mul {p a b : Nat} (hp : Pr p) (h : p ∣ a * b) : p ∣ a ∨ p ∣ b := by
  by_cases ha : p ∣ a
  · exact .inl ha
  · exact .inr ((hp.coprime ha).dvd_of_dvd_mul_left h)

theorem Pr.dvd_pow {p a : Nat} (hp : Pr p) : ∀ {n : Nat}, p ∣ a ^ n → p ∣ a := by
  intro n
  induction n with
  | zero => intro h; have h2 := hp.1; rw [Nat.pow_zero] at h; have := Nat.le_of_dvd (by decide) h; omega
  | succ n ih =>
    intro h
    rw [Nat.pow_succ] at h
    rcases hp.dvd_mul h with h | h
    · exact ih h
    · exact h

/-! ### Binomial numbers -/
def bino : Nat → Nat → Nat
  | _, 0 => 1
  | 0, _ + 1 => 0
  | n + 1, k + 1 => bino n k + bino n (k + 1)

theorem bino_zero (n : Nat) : bino n 0 = 1 := by cases n <;> rfl
theorem bino_out : ∀ {n k : Nat}, n < k → bino n k = 0 := by
  intro n
  induction n with
  | zero => intro k h; cases k with
    | zero => omega
    | succ k => rfl
  | succ n ih => intro k h; cases k with
    | zero => omega
    | succ k => simp only [bino]; rw [ih (by omega), ih (by omega)]
theorem bino_self : ∀ n, bino n n = 1 := by
  intro n
  induction n with
  | zero => rfl
  | succ n ih => simp only [bino]; rw [ih, bino_out (by omega)]

theorem bino_mul : ∀ n k, (k + 1) * bino (n + 1) (k + 1) = (n + 1) * bino n k := by
  intro n
  induction n with
  | zero => intro k; cases k with
    | zero => rfl
    | succ k => simp [bino]
  | succ n ih =>
    intro k
    cases k with
    | zero =>
      have := ih 0
      simp only [bino, bino_zero] at this ⊢
      omega
    | succ k =>
      have e : bino (n + 2) (k + 2) = bino (n + 1) (k + 1) + bino (n + 1) (k + 2) := rfl
      have h1 := ih k
      have h2 := ih (k + 1)
      have e2 : bino (n + 1) (k + 1) = bino n k + bino n (k + 1) := rfl
      rw [e, Nat.mul_add, h2]
      have e3 : (k + 1 + 1) * bino (n + 1) (k + 1) = (k + 1) * bino (n + 1) (k + 1) + bino (n + 1) (k + 1) := by rw [Nat.add_mul (k + 1) 1, Nat.one_mul]
      rw [e3, h1]
      have e4 : (n + 1 + 1) * bino (n + 1) (k + 1) = (n + 1) * bino (n + 1) (k + 1) + bino (n + 1) (k + 1) := by rw [Nat.add_mul (n + 1) 1, Nat.one_mul]
      rw [e4]
      generalize bino (n + 1) (k + 1) = c at *
      rw [e2, Nat.mul_add]
      omega

def binS (n a : Nat) : Nat → Nat
  | 0 => 0
  | m + 1 => binS n a m + bino n m * a ^ m

theorem bs_succ (n a : Nat) : ∀ m, binS (n + 1) a (m + 1) = a * binS n a m + binS n a (m + 1) := by
  intro m
  induction m with
  | zero => simp [binS, bino_zero]
  | succ m ih =>
    have e : binS (n + 1) a (m + 1 + 1) = binS (n + 1) a (m + 1) + (bino n m + bino n (m + 1)) * a ^ (m + 1) := rfl
    have e2 : binS n a (m + 1 + 1) = binS n a (m + 1) + bino n (m + 1) * a ^ (m + 1) := rfl
    have e3 : binS n a (m + 1) = binS n a m + bino n m * a ^ m := rfl
    rw [e, ih, e2]
    rw [show a * binS n a (m + 1) = a * binS n a m + bino n m * a ^ (m + 1) by rw [e3, Nat.mul_add, Nat.pow_succ]; grind]
    grind

theorem bs_pow (a : Nat) : ∀ n, binS n a (n + 1) = (a + 1) ^ n := by
  intro n
  induction n with
  | zero => rfl
  | succ n ih =>
    rw [bs_succ, ih]
    have : binS n a (n + 1 + 1) = binS n a (n + 1) + bino n (n + 1) * a ^ (n + 1) := rfl
    rw [this, bino_out (by omega), ih, Nat.pow_succ]
    grind

theorem Pr.bino_dvd {p k : Nat} (hp : Pr p) (h0 : 0 < k) (h1 : k < p) : p ∣ bino p k := by
  obtain ⟨n, rfl⟩ : ∃ n, p = n + 1 := ⟨p - 1, by have := hp.1; omega⟩
  obtain ⟨j, rfl⟩ : ∃ j, k = j + 1 := ⟨k - 1, by omega⟩
  have h := bino_mul n j
  rcases hp.dvd_mul (a := j + 1) (b := bino (n + 1) (j + 1)) ⟨bino n j, h⟩ with h2 | h2
  · have := Nat.le_of_dvd (by omega) h2; omega
  · exact h2

theorem Pr.bs_mod {p a : Nat} (hp : Pr p) : ∀ {m : Nat}, m < p → binS p a (m + 1) % p = 1 := by
  intro m
  induction m with
  | zero => intro _; simp only [binS, bino_zero]; have := hp.1; rw [Nat.pow_zero]; exact Nat.mod_eq_of_lt (by omega)
  | succ m ih =>
    intro h
    have e : binS p a (m + 1 + 1) = binS p a (m + 1) + bino p (m + 1) * a ^ (m + 1) := rfl
    obtain ⟨c, hc⟩ := hp.bino_dvd (k := m + 1) (by omega) h
    rw [e, hc, Nat.mul_assoc, Nat.add_mul_mod_self_left]
    exact ih (by omega)

theorem Pr.fermat {p : Nat} (hp : Pr p) : ∀ a, a ^ p % p = a % p := by
  intro a
  have h2 := hp.1
  induction a with
  | zero => rw [Nat.zero_pow (by omega)]
  | succ a ih =>
    rw [← bs_pow a p]
    have e : binS p a (p + 1) = binS p a p + bino p p * a ^ p := rfl
    have hm := hp.bs_mod (a := a) (m := p - 1) (by omega)
    rw [show p - 1 + 1 = p by omega] at hm
    rw [e, bino_self, Nat.one_mul, Nat.add_mod, hm, ih, ← Nat.mod_eq_of_lt (show 1 < p by omega), Nat.mod_eq_of_lt (show 1 < p by omega), Nat.add_comm]
    rw [Nat.mod_add_mod]

theorem Pr.fermat1 {p a : Nat} (hp : Pr p) (h : ¬ p ∣ a) : a ^ (p - 1) % p = 1 := by
  have h2 := hp.1
  have hf := hp.fermat a
  have e : a ^ p = a * a ^ (p - 1) := by
    have : p = p - 1 + 1 := by omega
    conv => lhs; rw [this]
    rw [Nat.pow_succ, Nat.mul_comm]
  rw [e] at hf
  have hd : p ∣ a * a ^ (p - 1) - a := Nat.dvd_of_mod_eq_zero (Nat.sub_mod_eq_zero_of_mod_eq hf)
  have e2 : a * a ^ (p - 1) - a = a * (a ^ (p - 1) - 1) := by rw [Nat.mul_sub, Nat.mul_one]
  rw [e2] at hd
  have ha : 0 < a := by rcases Nat.eq_zero_or_pos a with h0 | h0; exact absurd (h0 ▸ Nat.dvd_zero p) h; exact h0
  have hx : 0 < a ^ (p - 1) := Nat.pow_pos ha
  rcases hp.dvd_mul hd with h3 | h3
  · exact absurd h3 h
  · obtain ⟨c, hc⟩ := h3
    have : a ^ (p - 1) = 1 + p * c := by omega
    rw [this, Nat.add_mul_mod_self_left]
    exact Nat.mod_eq_of_lt (by omega)

/-! ### Pocklington -/
theorem pow_gcd {r b : Nat} (hr : 1 < r) (m n : Nat) : b ^ m % r = 1 → b ^ n % r = 1 → b ^ Nat.gcd m n % r = 1 := by
  refine Nat.gcd.induction m n (P := fun m n => b ^ m % r = 1 → b ^ n % r = 1 → b ^ Nat.gcd m n % r = 1) (fun n _ h => by rw [Nat.gcd_zero_left]; exact h) ?_
  intro m n hm ih h1 h2
  rw [Nat.gcd_rec]
  refine ih ?_ h1
  have e : b ^ n = (b ^ m) ^ (n / m) * b ^ (n % m) := by rw [← Nat.pow_mul, ← Nat.pow_add, Nat.div_add_mod]
  rw [e, Nat.mul_mod, Nat.pow_mod, h1, Nat.one_pow, Nat.mod_eq_of_lt hr, Nat.one_mul, Nat.mod_mod] at h2
  exact h2

theorem mod_of_dvd {r n x : Nat} (hrn : r ∣ n) (h : x % n = 1) (hr : 1 < r) : x % r = 1 := by
  have := Nat.mod_mod_of_dvd x hrn
  rw [h, Nat.mod_eq_of_lt hr] at this
  exact this.symm

theorem pock {n r q a : Nat} (hr : Pr r) (hrn : r ∣ n) (hn : 1 < n) (hq : Pr q) (hqn : q ∣ n - 1) (h1 : a ^ (n - 1) % n = 1)
    (h2 : Nat.gcd (a ^ ((n - 1) / q) % n + (n - 1)) n = 1) : q ∣ r - 1 := by
  have hr1 : 1 < r := hr.1
  obtain ⟨e, he⟩ := hqn
  have hq0 : 0 < q := by have := hq.1; omega
  have hdiv : (n - 1) / q = e := by rw [he]; exact Nat.mul_div_cancel_left e hq0
  rw [hdiv] at h2
  have hb : (a ^ e) ^ q % r = 1 := by
    rw [← Nat.pow_mul, Nat.mul_comm, ← he]
    exact mod_of_dvd hrn h1 hr1
  have hrb : ¬ r ∣ a ^ e := fun hd => by
    have : r ∣ (a ^ e) ^ q := by
      obtain ⟨q', rfl⟩ : ∃ q', q = q' + 1 := ⟨q - 1, by omega⟩
      rw [Nat.pow_succ]
      exact Nat.dvd_trans hd (Nat.dvd_mul_left _ _)
    rw [Nat.mod_eq_zero_of_dvd this] at hb
    omega
  have hf := hr.fermat1 hrb
  by_cases hd : q ∣ r - 1
  · exact hd
  · exfalso
    have hg := pow_gcd hr1 q (r - 1) hb hf
    have hc : Nat.gcd q (r - 1) = 1 := hq.coprime hd
    rw [hc, Nat.pow_one] at hg
    have hrg : r ∣ Nat.gcd (a ^ e % n + (n - 1)) n := by
      refine Nat.dvd_gcd ?_ hrn
      have h3 : a ^ e % n % r = 1 := by rw [Nat.mod_mod_of_dvd _ hrn]; exact hg
      obtain ⟨k, hk⟩ := hrn
      have h4 := Nat.div_add_mod (a ^ e % n) r
      rw [h3] at h4
      refine ⟨a ^ e % n / r + k, ?_⟩
      rw [Nat.mul_add, ← hk]
      omega
    rw [h2] at hrg
    have := Nat.le_of_dvd (by decide) hrg
    omega

theorem exists_prime : ∀ n, 2 ≤ n → ∃ r, Pr r ∧ r ∣ n := by
  intro n
  induction n using Nat.strongRecOn with
  | ind n ih =>
    intro h
    by_cases hp : Pr n
    · exact ⟨n, hp, Nat.dvd_refl n⟩
    · have : ∃ d, d ∣ n ∧ d ≠ 1 ∧ d ≠ n := by
        apply Classical.byContradiction
        intro hno
        refine hp ⟨h, fun d hd => ?_⟩
        apply Classical.byContradiction
        intro hc
        exact hno ⟨d, hd, fun e => hc (.inl e), fun e => hc (.inr e)⟩
      obtain ⟨d, hd, h1, h2⟩ := this
      have hle := Nat.le_of_dvd (by omega) hd
      have hd0 : d ≠ 0 := fun e => by subst e; obtain ⟨k, hk⟩ := hd; omega
      obtain ⟨r, hr, hrd⟩ := ih d (by omega) (by omega)
      exact ⟨r, hr, Nat.dvd_trans hrd hd⟩

theorem prime_of {n F : Nat} (hn : 2 ≤ n) (hF : n < (F + 1) * (F + 1)) (h : ∀ r, Pr r → r ∣ n → F < r) : Pr n := by
  refine ⟨hn, fun d hd => ?_⟩
  apply Classical.byContradiction
  intro hc
  obtain ⟨e, he⟩ := hd
  have h1 : d ≠ 1 := fun x => hc (.inl x)
  have h2 : d ≠ n := fun x => hc (.inr x)
  have hd0 : d ≠ 0 := fun x => by subst x; omega
  have he0 : e ≠ 0 := fun x => by subst x; omega
  have he1 : e ≠ 1 := fun x => by subst x; omega
  have big : ∀ x y, x * y = n → 2 ≤ x → F + 1 ≤ x := fun x y hxy hx => by
    obtain ⟨r, hr, hrx⟩ := exists_prime x hx
    have h3 := h r hr (Nat.dvd_trans hrx ⟨y, hxy.symm⟩)
    have := Nat.le_of_dvd (by omega) hrx
    omega
  have a1 := big d e he.symm (by omega)
  have a2 := big e d (by rw [Nat.mul_comm]; exact he.symm) (by omega)
  have := Nat.mul_le_mul a1 a2
  omega

/-- One large prime in n - 1. -/
theorem pock1 {n q a : Nat} (hn : 1 < n) (hq : Pr q) (hqn : q ∣ n - 1) (h1 : a ^ (n - 1) % n = 1) (h2 : Nat.gcd (a ^ ((n - 1) / q) % n + (n - 1)) n = 1) (hF : n < (q + 1) * (q + 1)) : Pr n :=
  prime_of hn hF fun r hr hrn => by
    have := pock hr hrn hn hq hqn h1 h2
    have hr1 := hr.1
    have := Nat.le_of_dvd (by omega) this
    omega

/-- Two primes in n - 1. -/
theorem pock2 {n q p a : Nat} (hn : 1 < n) (hq : Pr q) (hp : Pr p) (hne : ¬ p ∣ q) (hqn : q ∣ n - 1) (hpn : p ∣ n - 1) (h1 : a ^ (n - 1) % n = 1) (h2 : Nat.gcd (a ^ ((n - 1) / q) % n + (n - 1)) n = 1)
    (h3 : Nat.gcd (a ^ ((n - 1) / p) % n + (n - 1)) n = 1) (hF : n < (p * q + 1) * (p * q + 1)) : Pr n :=
  prime_of hn hF fun r hr hrn => by
    have d1 := pock hr hrn hn hq hqn h1 h2
    have d2 := pock hr hrn hn hp hpn h1 h3
    have hr1 := hr.1
    have := Nat.le_of_dvd (by omega) ((hp.coprime hne).mul_dvd_of_dvd_of_dvd d2 d1)
    omega

/-! ### Powers modulo n, computed -/
def pm (n a : Nat) : Nat → Nat → Nat
  | 0, _ => 1 % n
  | f + 1, e => bif Nat.beq e 0 then 1 % n else
    bif Nat.beq (e % 2) 1 then pm n a f (e / 2) * pm n a f (e / 2) % n * a % n else pm n a f (e / 2) * pm n a f (e / 2) % n

theorem pm_eq (n a : Nat) : ∀ f e, e < 2 ^ f → pm n a f e = a ^ e % n := by
  intro f
  induction f with
  | zero => intro e h; have : e = 0 := by simpa using h
            subst this; rfl
  | succ f ih =>
    intro e h
    simp only [pm]
    cases h0 : Nat.beq e 0 with
    | true => have := Nat.eq_of_beq_eq_true h0; subst this; rfl
    | false =>
      simp only [cond_false]
      have hh := ih (e / 2) (by rw [Nat.pow_succ] at h; omega)
      have hs : pm n a f (e / 2) * pm n a f (e / 2) % n = a ^ (e / 2 * 2) % n := by
        rw [hh, ← Nat.mul_mod, Nat.pow_mul]
        rw [Nat.pow_two]
      rw [hs]
      cases h1 : Nat.beq (e % 2) 1 with
      | true =>
        have h1 := Nat.eq_of_beq_eq_true h1
        simp only [cond_true]
        rw [Nat.mod_mul_mod, ← Nat.pow_succ, show (e / 2 * 2).succ = e by omega]
      | false =>
        simp only [cond_false]
        have h1 : ¬ e % 2 = 1 := fun x => by rw [x] at h1; cases h1
        rw [show e / 2 * 2 = e by omega]

/-- The tests, by powers that are computed. -/
theorem pockC1 {n q a f : Nat} (hf : n ≤ 2 ^ f) (hn : 1 < n) (hq : Pr q) (hqn : q ∣ n - 1) (h1 : pm n a f (n - 1) = 1) (h2 : Nat.gcd (pm n a f ((n - 1) / q) + (n - 1)) n = 1) (hF : n < (q + 1) * (q + 1)) : Pr n := by
  have e : ∀ k, (n - 1) / k < 2 ^ f := fun k => Nat.lt_of_le_of_lt (Nat.div_le_self _ _) (by omega)
  rw [pm_eq _ _ _ _ (by omega)] at h1
  rw [pm_eq _ _ _ _ (e q)] at h2
  exact pock1 hn hq hqn h1 h2 hF
theorem pockC2 {n q p a f : Nat} (hf : n ≤ 2 ^ f) (hn : 1 < n) (hq : Pr q) (hp : Pr p) (hne : ¬ p ∣ q) (hqn : q ∣ n - 1) (hpn : p ∣ n - 1) (h1 : pm n a f (n - 1) = 1) (h2 : Nat.gcd (pm n a f ((n - 1) / q) + (n - 1)) n = 1)
    (h3 : Nat.gcd (pm n a f ((n - 1) / p) + (n - 1)) n = 1) (hF : n < (p * q + 1) * (p * q + 1)) : Pr n := by
  have e : ∀ k, (n - 1) / k < 2 ^ f := fun k => Nat.lt_of_le_of_lt (Nat.div_le_self _ _) (by omega)
  rw [pm_eq _ _ _ _ (by omega)] at h1
  rw [pm_eq _ _ _ _ (e q)] at h2
  rw [pm_eq _ _ _ _ (e p)] at h3
  exact pock2 hn hq hp hne hqn hpn h1 h2 h3 hF

/-! ### Trial division -/
def tri (n : Nat) : Nat → Bool
  | 0 => true
  | k + 1 => bif Nat.beq (n % (k + 2)) 0 then false else tri n k

theorem tri_at {n : Nat} : ∀ {k : Nat}, tri n k = true → ∀ d, 2 ≤ d → d ≤ k + 1 → ¬ d ∣ n := by
  intro k
  induction k with
  | zero => intro _ d h1 h2; omega
  | succ k ih =>
    intro h d h1 h2 hd
    simp only [tri] at h
    cases hb : Nat.beq (n % (k + 2)) 0 with
    | true => rw [hb] at h; cases h
    | false =>
      rw [hb] at h
      simp only [cond_false] at h
      by_cases e : d = k + 2
      · subst e
        rw [Nat.mod_eq_zero_of_dvd hd] at hb
        cases hb
      · exact ih h d h1 (by omega) hd

theorem tri_prime {n k : Nat} (hn : 2 ≤ n) (h : tri n k = true) (hk : n < (k + 2) * (k + 2)) : Pr n :=
  prime_of hn hk fun r hr hrn => by
    rcases Nat.lt_or_ge (k + 1) r with h1 | h1
    · exact h1
    · exact absurd hrn (tri_at h r hr.1 h1)

end Go.Num

namespace Go.Num

theorem pr127 : Pr 127 := tri_prime (k := 11) (by decide) (by decide) (by decide)
theorem pr4153 : Pr 4153 := tri_prime (k := 64) (by decide) (by kernel_rfl) (by decide)
theorem pr75707 : Pr 75707 := tri_prime (k := 280) (by decide) (by kernel_rfl) (by decide)
theorem pr430751 : Pr 430751 := tri_prime (k := 660) (by decide) (by kernel_rfl) (by decide)
theorem pr8574133 : Pr 8574133 := tri_prime (k := 2930) (by decide) (by kernel_rfl) (by decide)

theorem prA : Pr 1919519569386763 := pockC2 (q := 8574133) (p := 127) (a := 2) (f := 51) (by decide) (by decide) pr8574133 pr127 (by decide) (by decide) (by decide) (by kernel_rfl) (by kernel_rfl) (by kernel_rfl) (by decide)

theorem prB : Pr 31757755568855353 := pockC2 (q := 430751) (p := 4153) (a := 2) (f := 55) (by decide) (by decide) pr430751 pr4153 (by decide) (by decide) (by decide) (by kernel_rfl) (by kernel_rfl) (by kernel_rfl) (by decide)

theorem prC : Pr 75445702479781427272750846543864801 := pockC2 (q := 1919519569386763) (p := 75707) (a := 2) (f := 116) (by decide) (by decide) prA pr75707 (by decide) (by decide) (by decide) (by kernel_rfl) (by kernel_rfl) (by kernel_rfl) (by decide)

theorem prD : Pr 74058212732561358302231226437062788676166966415465897661863160754340907 := pockC2 (q := 75445702479781427272750846543864801) (p := 31757755568855353) (a := 2) (f := 236) (by decide) (by decide) prC prB (by decide) (by decide) (by decide) (by kernel_rfl) (by kernel_rfl) (by kernel_rfl) (by decide)

theorem prF : Pr 57896044618658097711785492504343953926634992332820282019728792003956564819949 := pockC1 (q := 74058212732561358302231226437062788676166966415465897661863160754340907) (a := 2) (f := 255) (by decide) (by decide) prD (by decide) (by kernel_rfl) (by kernel_rfl) (by decide)

end Go.Num

namespace Go.Num

def pN : Nat := 57896044618658097711785492504343953926634992332820282019728792003956564819949
theorem pF_pN : pF = (pN : Int) := rfl
theorem pN_prime : Pr pN := prF

/-- Nothing, in the field. -/
def Z (a : Int) : Prop := Eqp a 0

theorem Z_iff {a : Int} : Z a ↔ pF ∣ a := ⟨fun ⟨q, h⟩ => ⟨q, by rw [h, Int.zero_add]⟩, fun ⟨q, h⟩ => ⟨q, by rw [h, Int.zero_add]⟩⟩
theorem Eqp_iff {a b : Int} : Eqp a b ↔ Z (a - b) := ⟨fun ⟨q, h⟩ => ⟨q, by rw [h]; omega⟩, fun ⟨q, h⟩ => ⟨q, by omega⟩⟩

theorem zl1 {a c e : Int} (h : Z e) (k : a = c * e) : Z a := by obtain ⟨q, h⟩ := h; exact ⟨c * q, by rw [k, h]; grind⟩
theorem Z_add {a b : Int} (h : Z a) (k : Z b) : Z (a + b) := by obtain ⟨q, h⟩ := h; obtain ⟨r, k⟩ := k; exact ⟨q + r, by rw [h, k]; grind⟩
theorem zl2 {a c1 e1 c2 e2 : Int} (h1 : Z e1) (h2 : Z e2) (k : a = c1 * e1 + c2 * e2) : Z a := k ▸ Z_add (zl1 h1 rfl) (zl1 h2 rfl)
theorem zl3 {a c1 e1 c2 e2 c3 e3 : Int} (h1 : Z e1) (h2 : Z e2) (h3 : Z e3) (k : a = c1 * e1 + c2 * e2 + c3 * e3) : Z a := k ▸ Z_add (zl2 h1 h2 rfl) (zl1 h3 rfl)
theorem zl4 {a c1 e1 c2 e2 c3 e3 c4 e4 : Int} (h1 : Z e1) (h2 : Z e2) (h3 : Z e3) (h4 : Z e4) (k : a = c1 * e1 + c2 * e2 + c3 * e3 + c4 * e4) : Z a := k ▸ Z_add (zl3 h1 h2 h3 rfl) (zl1 h4 rfl)

theorem Z_mul {a b : Int} (h : Z (a * b)) : Z a ∨ Z b := by
  have h := Z_iff.1 h
  have h2 : pN ∣ a.natAbs * b.natAbs := by
    rw [← Int.natAbs_mul]
    exact Int.natAbs_dvd_natAbs.2 h
  rcases pN_prime.dvd_mul h2 with h3 | h3
  · exact .inl (Z_iff.2 (Int.natAbs_dvd_natAbs.1 h3))
  · exact .inr (Z_iff.2 (Int.natAbs_dvd_natAbs.1 h3))
theorem nZ_mul {a b : Int} (h : ¬ Z a) (k : ¬ Z b) : ¬ Z (a * b) := fun e => (Z_mul e).elim h k

theorem not_Z_small {a : Int} (h0 : 0 < a) (h1 : a < pF) : ¬ Z a := fun h => by
  obtain ⟨q, h⟩ := h
  rw [Int.zero_add] at h
  rcases Int.lt_or_le q 1 with h2 | h2
  · have : pF * q ≤ 0 := Int.mul_nonpos_of_nonneg_of_nonpos (by decide) (by omega)
    omega
  · have : pF * 1 ≤ pF * q := Int.mul_le_mul_of_nonneg_left h2 (by decide)
    omega

theorem nZ1 : ¬ Z 1 := not_Z_small (by decide) (by decide)
theorem nZ2 : ¬ Z 2 := not_Z_small (by decide) (by decide)

theorem Eqp.pow {a b : Int} (h : Eqp a b) : ∀ n : Nat, Eqp (a ^ n) (b ^ n) := by
  intro n
  induction n with
  | zero => rw [Int.pow_zero, Int.pow_zero]; exact .refl _
  | succ n ih => rw [Int.pow_succ, Int.pow_succ]; exact ih.mul h

theorem Eqp_mod (a : Int) : Eqp (a % pF) a := .of_mod (Int.emod_emod_of_dvd _ (Int.dvd_refl _))

theorem mod_range (a : Int) : 0 ≤ a % pF ∧ a % pF < pF := ⟨Int.emod_nonneg _ (by decide), Int.emod_lt_of_pos _ (by decide)⟩

theorem fermatZ {a : Int} (h : ¬ Z a) : Eqp (a ^ (pN - 1)) 1 := by
  obtain ⟨h0, h1⟩ := mod_range a
  obtain ⟨r, hr⟩ := Int.eq_ofNat_of_zero_le h0
  have ha : Eqp a r := by rw [← hr]; exact (Eqp_mod a).symm
  have hnd : ¬ pN ∣ r := fun ⟨k, hk⟩ => h (ha.trans ⟨k, by rw [hk, pF_pN]; push_cast; omega⟩)
  have hf := pN_prime.fermat1 hnd
  refine (ha.pow _).trans (.of_mod ?_)
  have e : ((r : Int) ^ (pN - 1)) = ((r ^ (pN - 1) : Nat) : Int) := by rw [Int.natCast_pow]
  rw [e, pF_pN, ← Int.natCast_emod, hf]
  rfl

/-- The exponent of 'pwr'. -/
def exP : Nat → Nat
  | 0 => 0
  | n + 1 => if n = 252 ∨ n = 250 then exP n + exP n else exP n + exP n + 1

theorem pwr_ex (a : Int) : ∀ n, pwr a n = a ^ exP n := by
  intro n
  induction n with
  | zero => rw [show exP 0 = 0 from rfl, Int.pow_zero]; rfl
  | succ n ih =>
    simp only [pwr, exP]
    split
    · rw [ih, Int.pow_add]
    · rw [ih, Int.pow_succ, Int.pow_add]

def exB : Nat → Nat
  | 0 => 0
  | n + 1 => bif Nat.beq n 252 || Nat.beq n 250 then 2 * exB n else 2 * exB n + 1
theorem ex_exB : ∀ n, exP n = exB n := by
  intro n
  induction n with
  | zero => rfl
  | succ n ih =>
    simp only [exP, exB]
    by_cases h1 : n = 252
    · subst h1; simp [ih]; omega
    · by_cases h2 : n = 250
      · subst h2; simp [ih]; omega
      · have b1 : Nat.beq n 252 = false := by rw [Bool.eq_false_iff]; exact fun e => h1 (Nat.eq_of_beq_eq_true e)
        have b2 : Nat.beq n 250 = false := by rw [Bool.eq_false_iff]; exact fun e => h2 (Nat.eq_of_beq_eq_true e)
        rw [if_neg (by omega), b1, b2, ih]
        simp only [Bool.or_false, cond_false]
        omega
theorem ex_255 : exP 255 = pN - 2 := by rw [ex_exB]; decide +kernel

/-- One over. -/
def iv (a : Int) : Int := pwr a 255

theorem iv_mul {a : Int} (h : ¬ Z a) : Eqp (a * iv a) 1 := by
  have := fermatZ h
  have e : a ^ (pN - 1) = a * iv a := by
    unfold iv
    rw [pwr_ex, ex_255, show pN - 1 = pN - 2 + 1 from rfl, Int.pow_succ, Int.mul_comm]
  rwa [e] at this

theorem cancel {a b c : Int} (hc : ¬ Z c) (h : Eqp (a * c) (b * c)) : Eqp a b := by
  have h := Eqp_iff.1 h
  have : Z ((a - b) * c) := by rw [Int.sub_mul]; exact h
  rcases Z_mul this with h2 | h2
  · exact Eqp_iff.2 h2
  · exact absurd h2 hc

theorem iv_zero {a : Int} (h : Z a) : Z (iv a) := by
  have : Eqp (iv a) (iv 0) := pwr_eqp h 255
  refine this.trans ?_
  unfold iv
  rw [pwr_ex, ex_255, Int.zero_pow (by decide)]
  exact .refl _

/-! ### A number that is no square -/
def dE : Int := 20800338683988658368647408995589388737092878452977063003340006470870624536394
def dN : Nat := 20800338683988658368647408995589388737092878452977063003340006470870624536394
theorem dE_eq : Z (121666 * dE - 121665) := by
  rw [Z_iff]
  exact ⟨(121666 * dE - 121665) / pF, by decide +kernel⟩
theorem dE_nZ : ¬ Z dE := not_Z_small (by decide) (by decide)

theorem dN_euler : dN ^ ((pN - 1) / 2) % pN = pN - 1 := by
  rw [← pm_eq _ _ 255 _ (by decide)]
  kernel_rfl

theorem dE_euler : Eqp (dE ^ ((pN - 1) / 2)) (-1) := by
  have e : (dE ^ ((pN - 1) / 2)) = ((dN ^ ((pN - 1) / 2) : Nat) : Int) := by rw [Int.natCast_pow]; rfl
  refine (Eqp.of_mod (b := pF - 1) ?_).trans ⟨1, by decide⟩
  rw [e, pF_pN, ← Int.natCast_emod, dN_euler]
  decide

theorem nonsq {s : Int} (h : Z (s * s - dE)) : False := by
  have h1 : Eqp (s * s) dE := Eqp_iff.2 h
  have hs : ¬ Z s := fun hz => dE_nZ (h1.symm.trans (zl1 (c := s) hz rfl))
  have h2 := h1.pow ((pN - 1) / 2)
  have e : (s * s) ^ ((pN - 1) / 2) = s ^ (pN - 1) := by
    rw [show s * s = s ^ 2 by rw [Int.pow_succ, Int.pow_succ, Int.pow_zero, Int.one_mul], ← Int.pow_mul]
    rfl
  rw [e] at h2
  have h3 := ((fermatZ hs).symm.trans h2).trans dE_euler
  exact nZ2 (Eqp_iff.1 h3)

/-- A square is no square's multiple by d. -/
theorem nonsq2 {x y : Int} (hy : ¬ Z y) (h : Z (x * x - dE * (y * y))) : False := by
  have hi := Eqp_iff.1 (iv_mul hy)
  refine nonsq (s := x * iv y) ?_
  refine zl2 (c1 := iv y * iv y) (c2 := dE * (y * iv y + 1)) h hi ?_
  grind

end Go.Num

namespace Go.Num

/-- The curve's equation. -/
def crv (d x y : Int) : Int := x ^ 2 + y ^ 2 - 1 - d * x ^ 2 * y ^ 2
def tE (d x1 y1 x2 y2 : Int) : Int := d * x1 * x2 * y1 * y2
def nuX (x1 y1 x2 y2 : Int) : Int := x1 * y2 + y1 * x2
def nuY (x1 y1 x2 y2 : Int) : Int := y1 * y2 - x1 * x2

set_option maxHeartbeats 4000000 in
theorem id_close (d x1 y1 x2 y2 : Int) : nuX x1 y1 x2 y2 ^ 2 * (1 - tE d x1 y1 x2 y2) ^ 2 + nuY x1 y1 x2 y2 ^ 2 * (1 + tE d x1 y1 x2 y2) ^ 2 - (1 + tE d x1 y1 x2 y2) ^ 2 * (1 - tE d x1 y1 x2 y2) ^ 2 - d * nuX x1 y1 x2 y2 ^ 2 * nuY x1 y1 x2 y2 ^ 2
    = (d ^ 3*x1 ^ 2*x2 ^ 4*y1 ^ 2*y2 ^ 4 + d ^ 2*x1 ^ 2*x2 ^ 4*y2 ^ 4 + d ^ 2*x2 ^ 4*y1 ^ 2*y2 ^ 4 - d ^ 2*x2 ^ 4*y2 ^ 4 - d*x1 ^ 2*x2 ^ 4*y2 ^ 2 - d*x1 ^ 2*x2 ^ 2*y2 ^ 4 - d*x2 ^ 4*y1 ^ 2*y2 ^ 2 + 2*d*x2 ^ 4*y2 ^ 4 - d*x2 ^ 2*y1 ^ 2*y2 ^ 4 - 2*d*x2 ^ 2*y2 ^ 2 - 2*x2 ^ 4*y2 ^ 2 + x2 ^ 4 - 2*x2 ^ 2*y2 ^ 4 + 4*x2 ^ 2*y2 ^ 2 + y2 ^ 4) * crv d x1 y1 + (d*x1 ^ 4*x2 ^ 2*y2 ^ 2 - 2*d*x1 ^ 2*x2 ^ 2*y2 ^ 2 + d*x2 ^ 2*y1 ^ 4*y2 ^ 2 - 2*d*x2 ^ 2*y1 ^ 2*y2 ^ 2 + d*x2 ^ 2*y2 ^ 2 + 2*x1 ^ 2*x2 ^ 2*y2 ^ 2 - x1 ^ 2*x2 ^ 2 - x1 ^ 2*y2 ^ 2 + 2*x2 ^ 2*y1 ^ 2*y2 ^ 2 - x2 ^ 2*y1 ^ 2 - 2*x2 ^ 2*y2 ^ 2 + x2 ^ 2 - y1 ^ 2*y2 ^ 2 + y2 ^ 2 + 1) * crv d x2 y2 := by
  unfold nuX nuY tE crv
  grind

set_option maxHeartbeats 4000000 in
theorem id_assoc_x (d x1 y1 x2 y2 x3 y3 : Int) : (nuX x1 y1 x2 y2 * y3 * (1 - tE d x1 y1 x2 y2) + nuY x1 y1 x2 y2 * x3 * (1 + tE d x1 y1 x2 y2)) * ((1 - tE d x2 y2 x3 y3) * (1 + tE d x2 y2 x3 y3) + d * x1 * y1 * nuX x2 y2 x3 y3 * nuY x2 y2 x3 y3) - (x1 * nuY x2 y2 x3 y3 * (1 + tE d x2 y2 x3 y3) + y1 * nuX x2 y2 x3 y3 * (1 - tE d x2 y2 x3 y3)) * ((1 - tE d x1 y1 x2 y2) * (1 + tE d x1 y1 x2 y2) + d * x3 * y3 * nuX x1 y1 x2 y2 * nuY x1 y1 x2 y2)
    = (d ^ 2*x1*x2 ^ 4*x3 ^ 2*y2 ^ 3*y3 - d ^ 2*x1*x2 ^ 3*x3*y2 ^ 4*y3 ^ 2 + d ^ 2*x2 ^ 4*x3*y1*y2 ^ 3*y3 ^ 2 + d ^ 2*x2 ^ 3*x3 ^ 2*y1*y2 ^ 4*y3 - d*x1*x2 ^ 4*x3 ^ 2*y2*y3 - d*x1*x2 ^ 3*x3 ^ 3*y2 ^ 2 + d*x1*x2 ^ 3*x3*y2 ^ 2 + d*x1*x2 ^ 2*y2 ^ 3*y3 ^ 3 - d*x1*x2 ^ 2*y2 ^ 3*y3 + d*x1*x2*x3*y2 ^ 4*y3 ^ 2 - d*x2 ^ 4*x3*y1*y2*y3 ^ 2 + d*x2 ^ 3*y1*y2 ^ 2*y3 ^ 3 - d*x2 ^ 3*y1*y2 ^ 2*y3 + d*x2 ^ 2*x3 ^ 3*y1*y2 ^ 3 - d*x2 ^ 2*x3*y1*y2 ^ 3 - d*x2*x3 ^ 2*y1*y2 ^ 4*y3) * crv d x1 y1 + (-d ^ 2*x1 ^ 2*x2 ^ 2*x3 ^ 3*y1*y2*y3 ^ 2 - d ^ 2*x1 ^ 2*x2*x3 ^ 2*y1*y2 ^ 2*y3 ^ 3 - d ^ 2*x1*x2 ^ 2*x3 ^ 2*y1 ^ 2*y2*y3 ^ 3 + d ^ 2*x1*x2*x3 ^ 3*y1 ^ 2*y2 ^ 2*y3 ^ 2 + d*x1 ^ 3*x2 ^ 2*x3 ^ 2*y2*y3 + d*x1 ^ 3*x2*x3 ^ 3*y3 ^ 2 - d*x1 ^ 3*x2*x3*y2 ^ 2*y3 ^ 2 - d*x1 ^ 3*x3 ^ 2*y2*y3 ^ 3 + d*x1 ^ 2*x2 ^ 2*x3*y1*y2*y3 ^ 2 + d*x1 ^ 2*x2*x3 ^ 2*y1*y2 ^ 2*y3 - d*x1 ^ 2*x2*x3 ^ 2*y1*y3 ^ 3 - d*x1 ^ 2*x3 ^ 3*y1*y2*y3 ^ 2 + d*x1*x2 ^ 2*x3 ^ 2*y1 ^ 2*y2*y3 - d*x1*x2 ^ 2*x3 ^ 2*y2*y3 + d*x1*x2*x3 ^ 3*y1 ^ 2*y3 ^ 2 - d*x1*x2*x3 ^ 3*y3 ^ 2 - d*x1*x2*x3*y1 ^ 2*y2 ^ 2*y3 ^ 2 + d*x1*x2*x3*y2 ^ 2*y3 ^ 2 - d*x1*x3 ^ 2*y1 ^ 2*y2*y3 ^ 3 + d*x1*x3 ^ 2*y2*y3 ^ 3 + d*x2 ^ 2*x3*y1 ^ 3*y2*y3 ^ 2 - d*x2 ^ 2*x3*y1*y2*y3 ^ 2 + d*x2*x3 ^ 2*y1 ^ 3*y2 ^ 2*y3 - d*x2*x3 ^ 2*y1 ^ 3*y3 ^ 3 - d*x2*x3 ^ 2*y1*y2 ^ 2*y3 + d*x2*x3 ^ 2*y1*y3 ^ 3 - d*x3 ^ 3*y1 ^ 3*y2*y3 ^ 2 + d*x3 ^ 3*y1*y2*y3 ^ 2 - x1 ^ 3*x2*x3 ^ 3 - x1 ^ 3*x2*x3*y3 ^ 2 + x1 ^ 3*x2*x3 + x1 ^ 3*x3 ^ 2*y2*y3 + x1 ^ 3*y2*y3 ^ 3 - x1 ^ 3*y2*y3 + x1 ^ 2*x2*x3 ^ 2*y1*y3 + x1 ^ 2*x2*y1*y3 ^ 3 - x1 ^ 2*x2*y1*y3 + x1 ^ 2*x3 ^ 3*y1*y2 + x1 ^ 2*x3*y1*y2*y3 ^ 2 - x1 ^ 2*x3*y1*y2 - x1*x2*x3 ^ 3*y1 ^ 2 + x1*x2*x3 ^ 3 - x1*x2*x3*y1 ^ 2*y3 ^ 2 + x1*x2*x3*y1 ^ 2 + x1*x2*x3*y3 ^ 2 - x1*x2*x3 + x1*x3 ^ 2*y1 ^ 2*y2*y3 - x1*x3 ^ 2*y2*y3 + x1*y1 ^ 2*y2*y3 ^ 3 - x1*y1 ^ 2*y2*y3 - x1*y2*y3 ^ 3 + x1*y2*y3 + x2*x3 ^ 2*y1 ^ 3*y3 - x2*x3 ^ 2*y1*y3 + x2*y1 ^ 3*y3 ^ 3 - x2*y1 ^ 3*y3 - x2*y1*y3 ^ 3 + x2*y1*y3 + x3 ^ 3*y1 ^ 3*y2 - x3 ^ 3*y1*y2 + x3*y1 ^ 3*y2*y3 ^ 2 - x3*y1 ^ 3*y2 - x3*y1*y2*y3 ^ 2 + x3*y1*y2) * crv d x2 y2 + (d*x1 ^ 2*x2 ^ 2*x3*y1*y2 + d*x1 ^ 2*x2*y1*y2 ^ 2*y3 + d*x1*x2 ^ 2*y1 ^ 2*y2*y3 - d*x1*x2*x3*y1 ^ 2*y2 ^ 2 + x1 ^ 3*x2 ^ 3*x3 - x1 ^ 3*x2 ^ 2*y2*y3 + x1 ^ 3*x2*x3*y2 ^ 2 - x1 ^ 3*x2*x3 - x1 ^ 3*y2 ^ 3*y3 + x1 ^ 3*y2*y3 - x1 ^ 2*x2 ^ 3*y1*y3 - x1 ^ 2*x2 ^ 2*x3*y1*y2 - x1 ^ 2*x2*y1*y2 ^ 2*y3 + x1 ^ 2*x2*y1*y3 - x1 ^ 2*x3*y1*y2 ^ 3 + x1 ^ 2*x3*y1*y2 + x1*x2 ^ 3*x3*y1 ^ 2 - x1*x2 ^ 3*x3 - x1*x2 ^ 2*y1 ^ 2*y2*y3 + x1*x2 ^ 2*y2*y3 + x1*x2*x3*y1 ^ 2*y2 ^ 2 - x1*x2*x3*y1 ^ 2 - x1*x2*x3*y2 ^ 2 + x1*x2*x3 - x1*y1 ^ 2*y2 ^ 3*y3 + x1*y1 ^ 2*y2*y3 + x1*y2 ^ 3*y3 - x1*y2*y3 - x2 ^ 3*y1 ^ 3*y3 + x2 ^ 3*y1*y3 - x2 ^ 2*x3*y1 ^ 3*y2 + x2 ^ 2*x3*y1*y2 - x2*y1 ^ 3*y2 ^ 2*y3 + x2*y1 ^ 3*y3 + x2*y1*y2 ^ 2*y3 - x2*y1*y3 - x3*y1 ^ 3*y2 ^ 3 + x3*y1 ^ 3*y2 + x3*y1*y2 ^ 3 - x3*y1*y2) * crv d x3 y3 := by
  unfold nuX nuY tE crv
  grind

set_option maxHeartbeats 4000000 in
theorem id_assoc_y (d x1 y1 x2 y2 x3 y3 : Int) : (nuY x1 y1 x2 y2 * y3 * (1 + tE d x1 y1 x2 y2) - nuX x1 y1 x2 y2 * x3 * (1 - tE d x1 y1 x2 y2)) * ((1 - tE d x2 y2 x3 y3) * (1 + tE d x2 y2 x3 y3) - d * x1 * y1 * nuX x2 y2 x3 y3 * nuY x2 y2 x3 y3) - (y1 * nuY x2 y2 x3 y3 * (1 + tE d x2 y2 x3 y3) - x1 * nuX x2 y2 x3 y3 * (1 - tE d x2 y2 x3 y3)) * ((1 - tE d x1 y1 x2 y2) * (1 + tE d x1 y1 x2 y2) - d * x3 * y3 * nuX x1 y1 x2 y2 * nuY x1 y1 x2 y2)
    = (-d ^ 2*x1*x2 ^ 4*x3*y2 ^ 3*y3 ^ 2 - d ^ 2*x1*x2 ^ 3*x3 ^ 2*y2 ^ 4*y3 + d ^ 2*x2 ^ 4*x3 ^ 2*y1*y2 ^ 3*y3 - d ^ 2*x2 ^ 3*x3*y1*y2 ^ 4*y3 ^ 2 + d*x1*x2 ^ 4*x3*y2*y3 ^ 2 - d*x1*x2 ^ 3*y2 ^ 2*y3 ^ 3 + d*x1*x2 ^ 3*y2 ^ 2*y3 - d*x1*x2 ^ 2*x3 ^ 3*y2 ^ 3 + d*x1*x2 ^ 2*x3*y2 ^ 3 + d*x1*x2*x3 ^ 2*y2 ^ 4*y3 - d*x2 ^ 4*x3 ^ 2*y1*y2*y3 - d*x2 ^ 3*x3 ^ 3*y1*y2 ^ 2 + d*x2 ^ 3*x3*y1*y2 ^ 2 + d*x2 ^ 2*y1*y2 ^ 3*y3 ^ 3 - d*x2 ^ 2*y1*y2 ^ 3*y3 + d*x2*x3*y1*y2 ^ 4*y3 ^ 2) * crv d x1 y1 + (-d ^ 2*x1 ^ 2*x2 ^ 2*x3 ^ 2*y1*y2*y3 ^ 3 + d ^ 2*x1 ^ 2*x2*x3 ^ 3*y1*y2 ^ 2*y3 ^ 2 + d ^ 2*x1*x2 ^ 2*x3 ^ 3*y1 ^ 2*y2*y3 ^ 2 + d ^ 2*x1*x2*x3 ^ 2*y1 ^ 2*y2 ^ 2*y3 ^ 3 - d*x1 ^ 3*x2 ^ 2*x3*y2*y3 ^ 2 - d*x1 ^ 3*x2*x3 ^ 2*y2 ^ 2*y3 + d*x1 ^ 3*x2*x3 ^ 2*y3 ^ 3 + d*x1 ^ 3*x3 ^ 3*y2*y3 ^ 2 + d*x1 ^ 2*x2 ^ 2*x3 ^ 2*y1*y2*y3 + d*x1 ^ 2*x2*x3 ^ 3*y1*y3 ^ 2 - d*x1 ^ 2*x2*x3*y1*y2 ^ 2*y3 ^ 2 - d*x1 ^ 2*x3 ^ 2*y1*y2*y3 ^ 3 - d*x1*x2 ^ 2*x3*y1 ^ 2*y2*y3 ^ 2 + d*x1*x2 ^ 2*x3*y2*y3 ^ 2 - d*x1*x2*x3 ^ 2*y1 ^ 2*y2 ^ 2*y3 + d*x1*x2*x3 ^ 2*y1 ^ 2*y3 ^ 3 + d*x1*x2*x3 ^ 2*y2 ^ 2*y3 - d*x1*x2*x3 ^ 2*y3 ^ 3 + d*x1*x3 ^ 3*y1 ^ 2*y2*y3 ^ 2 - d*x1*x3 ^ 3*y2*y3 ^ 2 + d*x2 ^ 2*x3 ^ 2*y1 ^ 3*y2*y3 - d*x2 ^ 2*x3 ^ 2*y1*y2*y3 + d*x2*x3 ^ 3*y1 ^ 3*y3 ^ 2 - d*x2*x3 ^ 3*y1*y3 ^ 2 - d*x2*x3*y1 ^ 3*y2 ^ 2*y3 ^ 2 + d*x2*x3*y1*y2 ^ 2*y3 ^ 2 - d*x3 ^ 2*y1 ^ 3*y2*y3 ^ 3 + d*x3 ^ 2*y1*y2*y3 ^ 3 - x1 ^ 3*x2*x3 ^ 2*y3 - x1 ^ 3*x2*y3 ^ 3 + x1 ^ 3*x2*y3 - x1 ^ 3*x3 ^ 3*y2 - x1 ^ 3*x3*y2*y3 ^ 2 + x1 ^ 3*x3*y2 - x1 ^ 2*x2*x3 ^ 3*y1 - x1 ^ 2*x2*x3*y1*y3 ^ 2 + x1 ^ 2*x2*x3*y1 + x1 ^ 2*x3 ^ 2*y1*y2*y3 + x1 ^ 2*y1*y2*y3 ^ 3 - x1 ^ 2*y1*y2*y3 - x1*x2*x3 ^ 2*y1 ^ 2*y3 + x1*x2*x3 ^ 2*y3 - x1*x2*y1 ^ 2*y3 ^ 3 + x1*x2*y1 ^ 2*y3 + x1*x2*y3 ^ 3 - x1*x2*y3 - x1*x3 ^ 3*y1 ^ 2*y2 + x1*x3 ^ 3*y2 - x1*x3*y1 ^ 2*y2*y3 ^ 2 + x1*x3*y1 ^ 2*y2 + x1*x3*y2*y3 ^ 2 - x1*x3*y2 - x2*x3 ^ 3*y1 ^ 3 + x2*x3 ^ 3*y1 - x2*x3*y1 ^ 3*y3 ^ 2 + x2*x3*y1 ^ 3 + x2*x3*y1*y3 ^ 2 - x2*x3*y1 + x3 ^ 2*y1 ^ 3*y2*y3 - x3 ^ 2*y1*y2*y3 + y1 ^ 3*y2*y3 ^ 3 - y1 ^ 3*y2*y3 - y1*y2*y3 ^ 3 + y1*y2*y3) * crv d x2 y2 + (d*x1 ^ 2*x2 ^ 2*y1*y2*y3 - d*x1 ^ 2*x2*x3*y1*y2 ^ 2 - d*x1*x2 ^ 2*x3*y1 ^ 2*y2 - d*x1*x2*y1 ^ 2*y2 ^ 2*y3 + x1 ^ 3*x2 ^ 3*y3 + x1 ^ 3*x2 ^ 2*x3*y2 + x1 ^ 3*x2*y2 ^ 2*y3 - x1 ^ 3*x2*y3 + x1 ^ 3*x3*y2 ^ 3 - x1 ^ 3*x3*y2 + x1 ^ 2*x2 ^ 3*x3*y1 - x1 ^ 2*x2 ^ 2*y1*y2*y3 + x1 ^ 2*x2*x3*y1*y2 ^ 2 - x1 ^ 2*x2*x3*y1 - x1 ^ 2*y1*y2 ^ 3*y3 + x1 ^ 2*y1*y2*y3 + x1*x2 ^ 3*y1 ^ 2*y3 - x1*x2 ^ 3*y3 + x1*x2 ^ 2*x3*y1 ^ 2*y2 - x1*x2 ^ 2*x3*y2 + x1*x2*y1 ^ 2*y2 ^ 2*y3 - x1*x2*y1 ^ 2*y3 - x1*x2*y2 ^ 2*y3 + x1*x2*y3 + x1*x3*y1 ^ 2*y2 ^ 3 - x1*x3*y1 ^ 2*y2 - x1*x3*y2 ^ 3 + x1*x3*y2 + x2 ^ 3*x3*y1 ^ 3 - x2 ^ 3*x3*y1 - x2 ^ 2*y1 ^ 3*y2*y3 + x2 ^ 2*y1*y2*y3 + x2*x3*y1 ^ 3*y2 ^ 2 - x2*x3*y1 ^ 3 - x2*x3*y1*y2 ^ 2 + x2*x3*y1 - y1 ^ 3*y2 ^ 3*y3 + y1 ^ 3*y2*y3 + y1*y2 ^ 3*y3 - y1*y2*y3) * crv d x3 y3 := by
  unfold nuX nuY tE crv
  grind

end Go.Num

namespace Go.Num

structure Ed where
  x : Int
  y : Int

theorem Ed.ext' {P Q : Ed} (h : P.x = Q.x) (k : P.y = Q.y) : P = Q := by cases P; cases Q; simp_all

def tPQ (P Q : Ed) : Int := tE dE P.x P.y Q.x Q.y
/-- OnC the curve, in least numbers. -/
structure OnC (P : Ed) : Prop where
  eq : Z (crv dE P.x P.y)
  nx : P.x % pF = P.x
  ny : P.y % pF = P.y

def edd (P Q : Ed) : Ed := ⟨(nuX P.x P.y Q.x Q.y * iv (1 + tPQ P Q)) % pF, (nuY P.x P.y Q.x Q.y * iv (1 - tPQ P Q)) % pF⟩

theorem complete {P Q : Ed} (hP : Z (crv dE P.x P.y)) (hQ : Z (crv dE Q.x Q.y)) : ¬ Z (1 + tPQ P Q) ∧ ¬ Z (1 - tPQ P Q) := by
  obtain ⟨x1, y1⟩ := P
  obtain ⟨x2, y2⟩ := Q
  simp only [tPQ, tE] at *
  -- where t is 1 or -1, nothing in it is 0
  have key : ∀ ε : Int, (ε = 1 ∨ ε = -1) → Z (ε - dE * x1 * x2 * y1 * y2) → False := by
    intro ε hε ht
    have hε2 : ε * ε = 1 := by rcases hε with rfl | rfl <;> decide
    have hεn : ¬ Z ε := fun h => nZ1 (zl1 (c := ε) h (by rw [hε2]))
    have hx1 : ¬ Z x1 := fun h => hεn (zl2 (c1 := 1) (c2 := dE * x2 * y1 * y2) ht h (by grind))
    have hy1 : ¬ Z y1 := fun h => hεn (zl2 (c1 := 1) (c2 := dE * x1 * x2 * y2) ht h (by grind))
    have hx2 : ¬ Z x2 := fun h => hεn (zl2 (c1 := 1) (c2 := dE * x1 * y1 * y2) ht h (by grind))
    have hp : Z (x2 + y2) := by
      apply Classical.byContradiction
      intro hn
      refine nonsq2 (x := x1 + ε * y1) (y := x1 * y1 * (x2 + y2)) (nZ_mul (nZ_mul hx1 hy1) hn) ?_
      refine zl3 (c1 := 1) (c2 := - (dE * x1 ^ 2 * y1 ^ 2)) (c3 := ε + dE * x1 * x2 * y1 * y2 + 2 * x1 * y1) hP hQ ht ?_
      unfold crv
      grind
    have hm : Z (x2 - y2) := by
      apply Classical.byContradiction
      intro hn
      refine nonsq2 (x := x1 - ε * y1) (y := x1 * y1 * (x2 - y2)) (nZ_mul (nZ_mul hx1 hy1) hn) ?_
      refine zl3 (c1 := 1) (c2 := - (dE * x1 ^ 2 * y1 ^ 2)) (c3 := ε + dE * x1 * x2 * y1 * y2 - 2 * x1 * y1) hP hQ ht ?_
      unfold crv
      grind
    have : Z (2 * x2) := zl2 (c1 := 1) (c2 := 1) hp hm (by grind)
    rcases Z_mul this with h | h
    · exact nZ2 h
    · exact hx2 h
  refine ⟨fun h => key (-1) (.inr rfl) (zl1 (c := -1) h (by grind)), fun h => key 1 (.inl rfl) h⟩

theorem edd_x {P Q : Ed} (hP : OnC P) (hQ : OnC Q) : Z ((edd P Q).x * (1 + tPQ P Q) - nuX P.x P.y Q.x Q.y) := by
  have h1 := Eqp_iff.1 (iv_mul (complete hP.eq hQ.eq).1)
  have h2 := Eqp_iff.1 (Eqp_mod (nuX P.x P.y Q.x Q.y * iv (1 + tPQ P Q)))
  refine zl2 (c1 := nuX P.x P.y Q.x Q.y) (c2 := 1 + tPQ P Q) h1 h2 ?_
  simp only [edd]
  grind
theorem edd_y {P Q : Ed} (hP : OnC P) (hQ : OnC Q) : Z ((edd P Q).y * (1 - tPQ P Q) - nuY P.x P.y Q.x Q.y) := by
  have h1 := Eqp_iff.1 (iv_mul (complete hP.eq hQ.eq).2)
  have h2 := Eqp_iff.1 (Eqp_mod (nuY P.x P.y Q.x Q.y * iv (1 - tPQ P Q)))
  refine zl2 (c1 := nuY P.x P.y Q.x Q.y) (c2 := 1 - tPQ P Q) h1 h2 ?_
  simp only [edd]
  grind

theorem mod_mod (a : Int) : a % pF % pF = a % pF := Int.emod_emod_of_dvd _ (Int.dvd_refl _)

theorem edd_on {P Q : Ed} (hP : OnC P) (hQ : OnC Q) : OnC (edd P Q) := by
  refine ⟨?_, mod_mod _, mod_mod _⟩
  obtain ⟨c1, c2⟩ := complete hP.eq hQ.eq
  have hx := edd_x hP hQ
  have hy := edd_y hP hQ
  have key : Z (crv dE (edd P Q).x (edd P Q).y * ((1 + tPQ P Q) ^ 2 * (1 - tPQ P Q) ^ 2)) := by
    have hid := id_close dE P.x P.y Q.x Q.y
    have hc : Z (nuX P.x P.y Q.x Q.y ^ 2 * (1 - tE dE P.x P.y Q.x Q.y) ^ 2 + nuY P.x P.y Q.x Q.y ^ 2 * (1 + tE dE P.x P.y Q.x Q.y) ^ 2 - (1 + tE dE P.x P.y Q.x Q.y) ^ 2 * (1 - tE dE P.x P.y Q.x Q.y) ^ 2 - dE * nuX P.x P.y Q.x Q.y ^ 2 * nuY P.x P.y Q.x Q.y ^ 2) := zl2 hP.eq hQ.eq hid
    change Z (nuX P.x P.y Q.x Q.y ^ 2 * (1 - tPQ P Q) ^ 2 + nuY P.x P.y Q.x Q.y ^ 2 * (1 + tPQ P Q) ^ 2 - (1 + tPQ P Q) ^ 2 * (1 - tPQ P Q) ^ 2 - dE * nuX P.x P.y Q.x Q.y ^ 2 * nuY P.x P.y Q.x Q.y ^ 2) at hc
    generalize (edd P Q).x = X at *
    generalize (edd P Q).y = Y at *
    generalize tPQ P Q = t at *
    generalize nuX P.x P.y Q.x Q.y = n at *
    generalize nuY P.x P.y Q.x Q.y = m at *
    generalize dE = d at *
    refine zl3 (c1 := 1) (c2 := (X * (1 + t) + n) * ((1 - t) ^ 2 - d * (Y * (1 - t)) ^ 2)) (c3 := (Y * (1 - t) + m) * ((1 + t) ^ 2 - d * n ^ 2)) hc hx hy ?_
    unfold crv
    grind
  rcases Z_mul key with h | h
  · exact h
  · exfalso
    have e : (1 + tPQ P Q) ^ 2 * (1 - tPQ P Q) ^ 2 = ((1 + tPQ P Q) * (1 + tPQ P Q)) * ((1 - tPQ P Q) * (1 - tPQ P Q)) := by grind
    rw [e] at h
    exact nZ_mul (nZ_mul c1 c1) (nZ_mul c2 c2) h

theorem Ed.eq_of {P Q : Ed} (hP : OnC P) (hQ : OnC Q) (h : Z (P.x - Q.x)) (k : Z (P.y - Q.y)) : P = Q :=
  Ed.ext' (by rw [← hP.nx, ← hQ.nx]; exact (Eqp_iff.2 h).mod) (by rw [← hP.ny, ← hQ.ny]; exact (Eqp_iff.2 k).mod)

theorem edd_comm (P Q : Ed) : edd P Q = edd Q P := by
  have e1 : tPQ P Q = tPQ Q P := by unfold tPQ tE; grind
  have e2 : nuX P.x P.y Q.x Q.y = nuX Q.x Q.y P.x P.y := by unfold nuX; grind
  have e3 : nuY P.x P.y Q.x Q.y = nuY Q.x Q.y P.x P.y := by unfold nuY; grind
  unfold edd
  rw [e1, e2, e3]

theorem edd_assoc {P Q R : Ed} (hP : OnC P) (hQ : OnC Q) (hR : OnC R) : edd (edd P Q) R = edd P (edd Q R) := by
  have hA := edd_on hP hQ
  have hB := edd_on hQ hR
  obtain ⟨a1, a2⟩ := complete hP.eq hQ.eq
  obtain ⟨b1, b2⟩ := complete hQ.eq hR.eq
  obtain ⟨l1, l2⟩ := complete hA.eq hR.eq
  obtain ⟨r1, r2⟩ := complete hP.eq hB.eq
  have ax := edd_x hP hQ
  have ay := edd_y hP hQ
  have bx := edd_x hQ hR
  have by_ := edd_y hQ hR
  have lx := edd_x hA hR
  have ly := edd_y hA hR
  have rx := edd_x hP hB
  have ry := edd_y hP hB
  have ix : Z _ := zl3 hP.eq hQ.eq hR.eq (id_assoc_x dE P.x P.y Q.x Q.y R.x R.y)
  have iy : Z _ := zl3 hP.eq hQ.eq hR.eq (id_assoc_y dE P.x P.y Q.x Q.y R.x R.y)
  have ea : tE dE P.x P.y Q.x Q.y = tPQ P Q := rfl
  have eb : tE dE Q.x Q.y R.x R.y = tPQ Q R := rfl
  rw [ea, eb] at ix iy
  have el : tPQ (edd P Q) R = dE * (edd P Q).x * R.x * (edd P Q).y * R.y := rfl
  have er : tPQ P (edd Q R) = dE * P.x * (edd Q R).x * P.y * (edd Q R).y := rfl
  have fx1 : nuX (edd P Q).x (edd P Q).y R.x R.y = (edd P Q).x * R.y + (edd P Q).y * R.x := rfl
  have fy1 : nuY (edd P Q).x (edd P Q).y R.x R.y = (edd P Q).y * R.y - (edd P Q).x * R.x := rfl
  have fx2 : nuX P.x P.y (edd Q R).x (edd Q R).y = P.x * (edd Q R).y + P.y * (edd Q R).x := rfl
  have fy2 : nuY P.x P.y (edd Q R).x (edd Q R).y = P.y * (edd Q R).y - P.x * (edd Q R).x := rfl
  rw [el] at lx ly l1 l2
  rw [er] at rx ry r1 r2
  rw [fx1] at lx
  rw [fy1] at ly
  rw [fx2] at rx
  rw [fy2] at ry
  have hL := edd_on hA hR
  have hR' := edd_on hP hB
  refine Ed.eq_of hL hR' ?_ ?_
  · generalize (edd (edd P Q) R).x = LX at *
    generalize (edd P (edd Q R)).x = RX at *
    generalize (edd P Q).x = AX at *
    generalize (edd P Q).y = AY at *
    generalize (edd Q R).x = BX at *
    generalize (edd Q R).y = BY at *
    generalize tPQ P Q = t at *
    generalize tPQ Q R = s at *
    generalize nuX P.x P.y Q.x Q.y = n at *
    generalize nuY P.x P.y Q.x Q.y = m at *
    generalize nuX Q.x Q.y R.x R.y = u at *
    generalize nuY Q.x Q.y R.x R.y = v at *
    generalize dE = d at *
    have dl : Z (((1 - t) * (1 + t) + d * R.x * R.y * n * m) - (1 + d * AX * R.x * AY * R.y) * ((1 + t) * (1 - t))) := zl2 (c1 := - (d * R.x * R.y * AY * (1 - t))) (c2 := - (d * R.x * R.y * n)) ax ay (by grind)
    have dr : Z (((1 - s) * (1 + s) + d * P.x * P.y * u * v) - (1 + d * P.x * BX * P.y * BY) * ((1 + s) * (1 - s))) := zl2 (c1 := - (d * P.x * P.y * BY * (1 - s))) (c2 := - (d * P.x * P.y * u)) bx by_ (by grind)
    have nl : Z (LX * ((1 - t) * (1 + t) + d * R.x * R.y * n * m) - (n * R.y * (1 - t) + m * R.x * (1 + t))) := zl4 (c1 := LX) (c2 := (1 + t) * (1 - t)) (c3 := R.y * (1 - t)) (c4 := R.x * (1 + t)) dl lx ax ay (by grind)
    have nr : Z (RX * ((1 - s) * (1 + s) + d * P.x * P.y * u * v) - (P.x * v * (1 + s) + P.y * u * (1 - s))) := zl4 (c1 := RX) (c2 := (1 + s) * (1 - s)) (c3 := P.y * (1 - s)) (c4 := P.x * (1 + s)) dr rx bx by_ (by grind)
    have kl : ¬ Z ((1 - t) * (1 + t) + d * R.x * R.y * n * m) := fun h => nZ_mul l1 (nZ_mul a1 a2) (zl2 (c1 := 1) (c2 := -1) h dl (by grind))
    have kr : ¬ Z ((1 - s) * (1 + s) + d * P.x * P.y * u * v) := fun h => nZ_mul r1 (nZ_mul b1 b2) (zl2 (c1 := 1) (c2 := -1) h dr (by grind))
    generalize (1 - t) * (1 + t) + d * R.x * R.y * n * m = DL at *
    generalize (1 - s) * (1 + s) + d * P.x * P.y * u * v = DR at *
    generalize n * R.y * (1 - t) + m * R.x * (1 + t) = NL at *
    generalize P.x * v * (1 + s) + P.y * u * (1 - s) = NR at *
    have : Z ((LX - RX) * (DL * DR)) := zl3 (c1 := DR) (c2 := - DL) (c3 := 1) nl nr ix (by grind)
    exact (Z_mul this).elim id fun h => absurd h (nZ_mul kl kr)
  · generalize (edd (edd P Q) R).y = LX at *
    generalize (edd P (edd Q R)).y = RX at *
    generalize (edd P Q).x = AX at *
    generalize (edd P Q).y = AY at *
    generalize (edd Q R).x = BX at *
    generalize (edd Q R).y = BY at *
    generalize tPQ P Q = t at *
    generalize tPQ Q R = s at *
    generalize nuX P.x P.y Q.x Q.y = n at *
    generalize nuY P.x P.y Q.x Q.y = m at *
    generalize nuX Q.x Q.y R.x R.y = u at *
    generalize nuY Q.x Q.y R.x R.y = v at *
    generalize dE = d at *
    have dl : Z (((1 - t) * (1 + t) - d * R.x * R.y * n * m) - (1 - d * AX * R.x * AY * R.y) * ((1 + t) * (1 - t))) := zl2 (c1 := d * R.x * R.y * AY * (1 - t)) (c2 := d * R.x * R.y * n) ax ay (by grind)
    have dr : Z (((1 - s) * (1 + s) - d * P.x * P.y * u * v) - (1 - d * P.x * BX * P.y * BY) * ((1 + s) * (1 - s))) := zl2 (c1 := d * P.x * P.y * BY * (1 - s)) (c2 := d * P.x * P.y * u) bx by_ (by grind)
    have nl : Z (LX * ((1 - t) * (1 + t) - d * R.x * R.y * n * m) - (m * R.y * (1 + t) - n * R.x * (1 - t))) := zl4 (c1 := LX) (c2 := (1 + t) * (1 - t)) (c3 := - (R.x * (1 - t))) (c4 := R.y * (1 + t)) dl ly ax ay (by grind)
    have nr : Z (RX * ((1 - s) * (1 + s) - d * P.x * P.y * u * v) - (P.y * v * (1 + s) - P.x * u * (1 - s))) := zl4 (c1 := RX) (c2 := (1 + s) * (1 - s)) (c3 := - (P.x * (1 - s))) (c4 := P.y * (1 + s)) dr ry bx by_ (by grind)
    have kl : ¬ Z ((1 - t) * (1 + t) - d * R.x * R.y * n * m) := fun h => nZ_mul l2 (nZ_mul a1 a2) (zl2 (c1 := 1) (c2 := -1) h dl (by grind))
    have kr : ¬ Z ((1 - s) * (1 + s) - d * P.x * P.y * u * v) := fun h => nZ_mul r2 (nZ_mul b1 b2) (zl2 (c1 := 1) (c2 := -1) h dr (by grind))
    generalize (1 - t) * (1 + t) - d * R.x * R.y * n * m = DL at *
    generalize (1 - s) * (1 + s) - d * P.x * P.y * u * v = DR at *
    generalize m * R.y * (1 + t) - n * R.x * (1 - t) = NL at *
    generalize P.y * v * (1 + s) - P.x * u * (1 - s) = NR at *
    have : Z ((LX - RX) * (DL * DR)) := zl3 (c1 := DR) (c2 := - DL) (c3 := 1) nl nr iy (by grind)
    exact (Z_mul this).elim id fun h => absurd h (nZ_mul kl kr)

/-! ### Nothing, and the other way -/
def oE : Ed := ⟨0, 1⟩
def neE (P : Ed) : Ed := ⟨(-P.x) % pF, P.y⟩

theorem oE_on : OnC oE := ⟨⟨0, by decide⟩, by decide, by decide⟩
theorem neE_on {P : Ed} (hP : OnC P) : OnC (neE P) := by
  refine ⟨?_, mod_mod _, hP.ny⟩
  have h := Eqp_iff.1 (Eqp_mod (-P.x))
  refine zl2 (c1 := 1) (c2 := ((-P.x) % pF - P.x) * (1 - dE * P.y ^ 2)) hP.eq h ?_
  simp only [neE, crv]
  grind
theorem edd_o {P : Ed} (hP : OnC P) : edd P oE = P := by
  have hx := edd_x hP oE_on
  have hy := edd_y hP oE_on
  have et : tPQ P oE = 0 := by simp [tPQ, tE, oE]
  rw [et] at hx hy
  refine Ed.eq_of (edd_on hP oE_on) hP (zl1 (c := 1) hx ?_) (zl1 (c := 1) hy ?_)
  · simp only [nuX, oE]; grind
  · simp only [nuY, oE]; grind
theorem edd_ne {P : Ed} (hP : OnC P) : edd P (neE P) = oE := by
  have hn := neE_on hP
  obtain ⟨c1, c2⟩ := complete hP.eq hn.eq
  have hx := edd_x hP hn
  have hy := edd_y hP hn
  have h := Eqp_iff.1 (Eqp_mod (-P.x))
  have exP : (neE P).x = (-P.x) % pF := rfl
  have ey : (neE P).y = P.y := rfl
  have et : tPQ P (neE P) = dE * P.x * ((-P.x) % pF) * P.y * P.y := rfl
  have en : nuX P.x P.y (neE P).x (neE P).y = P.x * P.y + P.y * ((-P.x) % pF) := rfl
  have em : nuY P.x P.y (neE P).x (neE P).y = P.y * P.y - P.x * ((-P.x) % pF) := rfl
  rw [en] at hx
  rw [em] at hy
  rw [et] at hx hy c1 c2
  refine Ed.eq_of (edd_on hP hn) oE_on ?_ ?_
  · have : Z ((edd P (neE P)).x * (1 + dE * P.x * ((-P.x) % pF) * P.y * P.y)) := zl2 (c1 := 1) (c2 := P.y) hx h (by grind)
    rcases Z_mul this with h2 | h2
    · exact zl1 (c := 1) h2 (by simp [oE])
    · exact absurd h2 c1
  · have hc := hP.eq
    have e1 : oE.y = 1 := rfl
    rw [e1]
    unfold crv at hc
    generalize (edd P (neE P)).y = Y at *
    generalize (-P.x) % pF = X at *
    generalize dE = d at *
    have : Z ((Y - 1) * (1 - d * P.x * X * P.y * P.y)) := zl3 (c1 := 1) (c2 := 1) (c3 := d * P.x * P.y ^ 2 - P.x) hy hc h (by grind)
    rcases Z_mul this with h2 | h2
    · exact h2
    · exact absurd h2 c2

def mlE (n : Nat) (P : Ed) : Ed :=
  match n with
  | 0 => oE
  | n + 1 => edd (mlE n P) P
theorem mlE_on {P : Ed} (hP : OnC P) : ∀ n, OnC (mlE n P) := by
  intro n
  induction n with
  | zero => exact oE_on
  | succ n ih => exact edd_on ih hP

theorem mlE_add {P : Ed} (hP : OnC P) (m : Nat) : ∀ n, edd (mlE m P) (mlE n P) = mlE (m + n) P := by
  intro n
  induction n with
  | zero => exact edd_o (mlE_on hP m)
  | succ n ih =>
    show edd (mlE m P) (edd (mlE n P) P) = edd (mlE (m + n) P) P
    rw [← edd_assoc (mlE_on hP m) (mlE_on hP n) hP, ih]

theorem mlE_mul {P : Ed} (hP : OnC P) (b : Nat) : ∀ a, mlE a (mlE b P) = mlE (a * b) P := by
  intro a
  induction a with
  | zero => rw [Nat.zero_mul]; rfl
  | succ a ih =>
    show edd (mlE a (mlE b P)) (mlE b P) = _
    rw [ih, mlE_add hP, Nat.succ_mul]

theorem mlE_diff {P : Ed} (hP : OnC P) (n : Nat) : edd (mlE (n + 1) P) (neE (mlE n P)) = P := by
  have hn := mlE_on hP n
  show edd (edd (mlE n P) P) (neE (mlE n P)) = P
  rw [edd_comm (mlE n P) P, edd_assoc hP hn (neE_on hn), edd_ne hn, edd_o hP]

theorem mlE_o : ∀ n, mlE n oE = oE := by
  intro n
  induction n with
  | zero => rfl
  | succ n ih => show edd (mlE n oE) oE = oE; rw [ih, edd_o oE_on]

end Go.Num

namespace Go.Num

/-- These two numbers stand for this point. -/
def Rep (p : Pt) (P : Ed) : Prop := ¬ Z (p.x + p.z) ∧ Z (p.x - p.z - P.y * (p.x + p.z))

theorem dbl_rep {p : Pt} {P : Ed} (h : Rep p P) (hP : OnC P) : Rep (dbl p) (edd P P) := by
  obtain ⟨hS, hD⟩ := h
  obtain ⟨x, z⟩ := p
  simp only at hS hD
  have hc := hP.eq
  obtain ⟨c1, c2⟩ := complete hP.eq hP.eq
  have hy := edd_y hP hP
  have hd := dE_eq
  have et : tPQ P P = dE * P.x * P.x * P.y * P.y := rfl
  have em : nuY P.x P.y P.x P.y = P.y * P.y - P.x * P.x := rfl
  rw [em, et] at hy
  rw [et] at c2
  unfold Rep
  simp only [dbl, sq]
  unfold crv at hc
  generalize (edd P P).y = Y at *
  generalize P.x = a at *
  generalize P.y = y at *
  have hyy : ¬ Z (1 - dE * (y * y)) := fun h => by
    by_cases h0 : Z y
    · exact nZ1 (zl2 (c1 := 1) (c2 := dE * y) h h0 (by grind))
    · exact nonsq2 (x := 1) (y := y) h0 (by rw [Int.one_mul]; exact h)
  have hn : Z ((2 * 121666 * y ^ 2 - 121665 * y ^ 4 - 121666) - Y * (121666 - 2 * 121665 * y ^ 2 + 121665 * y ^ 4)) :=
    zl3 (c1 := -121666 * (1 - dE * y ^ 2)) (c2 := -121666 * (dE * y ^ 2 * Y - 1)) (c3 := y ^ 4 + Y * (y ^ 4 - 2 * y ^ 2)) hy hc hd (by grind)
  have hden : ¬ Z (121666 - 2 * 121665 * y ^ 2 + 121665 * y ^ 4) := fun h => by
    refine nZ_mul (nZ_mul (not_Z_small (a := 121666) (by decide) (by decide)) hyy) c2 ?_
    exact zl3 (c1 := 1) (c2 := y ^ 4 - 2 * y ^ 2) (c3 := -121666 * dE * y ^ 2) h hd hc (by grind)
  generalize dE = d at *
  constructor
  · intro h
    refine nZ_mul (nZ_mul (nZ_mul hS hS) (nZ_mul hS hS)) hden ?_
    refine zl2 (c1 := 1) (c2 := - ((x + z) ^ 2 * (x - z + y * (x + z))) + (x - z + y * (x + z)) * ((x + z) ^ 2 + 121665 * ((x + z) ^ 2 - (x - z) ^ 2 + (x + z) ^ 2 * (1 - y ^ 2)))) h hD ?_
    grind
  · refine zl2 (c1 := (x + z) ^ 4) (c2 := (1 - Y) * ((x + z) ^ 2 * (x - z + y * (x + z))) + (1 + Y) * ((x - z + y * (x + z)) * ((x + z) ^ 2 + 121665 * ((x + z) ^ 2 - (x - z) ^ 2 + (x + z) ^ 2 * (1 - y ^ 2))))) hn hD ?_
    grind

theorem dadd_rep {p q : Pt} {P Q : Ed} {u : Int} (hp : Rep p P) (hq : Rep q Q) (hP : OnC P) (hQ : OnC Q) (hu : Z (u * (1 - (edd Q (neE P)).y) - (1 + (edd Q (neE P)).y))) (h1 : ¬ Z (1 - (edd Q (neE P)).y)) (h0 : ¬ Z u) : Rep (dadd p q u) (edd P Q) := by
  obtain ⟨hS1, hD1⟩ := hp
  obtain ⟨hS2, hD2⟩ := hq
  have hN := neE_on hP
  obtain ⟨c1, c2⟩ := complete hP.eq hQ.eq
  have hs := edd_y hP hQ
  have hd := edd_y hQ hN
  have hm := Eqp_iff.1 (Eqp_mod (-P.x))
  have e1 : tPQ P Q = dE * P.x * Q.x * P.y * Q.y := rfl
  have e2 : tPQ Q (neE P) = dE * Q.x * ((-P.x) % pF) * Q.y * P.y := rfl
  have e3 : nuY P.x P.y Q.x Q.y = P.y * Q.y - P.x * Q.x := rfl
  have e4 : nuY Q.x Q.y (neE P).x (neE P).y = Q.y * P.y - Q.x * ((-P.x) % pF) := rfl
  rw [e1, e3] at hs
  rw [e2, e4] at hd
  rw [e1] at c1 c2
  have k1 := hP.eq
  have k2 := hQ.eq
  unfold crv at k1 k2
  obtain ⟨px, pz⟩ := p
  obtain ⟨qx, qz⟩ := q
  simp only at hS1 hD1 hS2 hD2
  unfold Rep
  simp only [dadd, sq]
  generalize (edd P Q).y = ys at *
  generalize (edd Q (neE P)).y = yd at *
  generalize (-P.x) % pF = x1' at *
  generalize P.x = x1 at *
  generalize P.y = y1 at *
  generalize Q.x = x2 at *
  generalize Q.y = y2 at *
  generalize dE = d at *
  have hB : Z (yd * (1 + d * x1 * x2 * y1 * y2) - (y1 * y2 + x1 * x2)) := zl2 (c1 := 1) (c2 := yd * d * x2 * y1 * y2 - x2) hd hm (by grind)
  have hK : Z (2 * y1 * y2 * (1 + ys * yd) - (ys + yd) * (y1 ^ 2 + y2 ^ 2)) := by
    have : Z ((2 * y1 * y2 * (1 + ys * yd) - (ys + yd) * (y1 ^ 2 + y2 ^ 2)) * ((1 + d * x1 * x2 * y1 * y2) * (1 - d * x1 * x2 * y1 * y2))) := by
      refine zl4 (c1 := 2 * y1 * y2 * (yd * (1 + d * x1 * x2 * y1 * y2)) - (1 + d * x1 * x2 * y1 * y2) * (y1 ^ 2 + y2 ^ 2)) (c2 := 2 * y1 * y2 * (y1 * y2 - x1 * x2) - (1 - d * x1 * x2 * y1 * y2) * (y1 ^ 2 + y2 ^ 2))
        (c3 := 2 * (d * x2 ^ 2 * y1 * y2 ^ 3 - x2 ^ 2 * y1 * y2)) (c4 := 2 * (y1 ^ 3 * y2 - y1 * y2)) hs hB k1 k2 ?_
      grind
    exact (Z_mul this).elim id fun h => absurd h (nZ_mul c1 c2)
  have hT : Z (((qx - qz) * (px + pz) + (qx + qz) * (px - pz)) * ((qx - qz) * (px + pz) + (qx + qz) * (px - pz)) - u * (((qx - qz) * (px + pz) - (qx + qz) * (px - pz)) * ((qx - qz) * (px + pz) - (qx + qz) * (px - pz)))
      - ys * (((qx - qz) * (px + pz) + (qx + qz) * (px - pz)) * ((qx - qz) * (px + pz) + (qx + qz) * (px - pz)) + u * (((qx - qz) * (px + pz) - (qx + qz) * (px - pz)) * ((qx - qz) * (px + pz) - (qx + qz) * (px - pz))))) := by
    generalize hS1e : px + pz = S1 at *
    generalize hD1e : px - pz = D1 at *
    generalize hS2e : qx + qz = S2 at *
    generalize hD2e : qx - qz = D2 at *
    have : Z ((((D2 * S1 + S2 * D1) * (D2 * S1 + S2 * D1)) - u * ((D2 * S1 - S2 * D1) * (D2 * S1 - S2 * D1)) - ys * ((D2 * S1 + S2 * D1) * (D2 * S1 + S2 * D1) + u * ((D2 * S1 - S2 * D1) * (D2 * S1 - S2 * D1)))) * (1 - yd)) := by
      refine zl4 (c1 := (1 - yd) * (1 - ys) * S2 * (D2 * S1 + S2 * D1 + S1 * S2 * (y1 + y2)) + (1 - yd) * (1 + ys) * u * S2 * (D2 * S1 - S2 * D1 + S1 * S2 * (y2 - y1)))
        (c2 := (1 - yd) * (1 - ys) * S1 * (D2 * S1 + S2 * D1 + S1 * S2 * (y1 + y2)) - (1 - yd) * (1 + ys) * u * S1 * (D2 * S1 - S2 * D1 + S1 * S2 * (y2 - y1)))
        (c3 := 2 * (S1 * S2) ^ 2) (c4 := - ((S1 * S2) ^ 2 * (1 + ys) * (y2 - y1) ^ 2)) hD1 hD2 hK hu ?_
      grind
    exact (Z_mul this).elim id fun h => absurd h h1
  refine ⟨fun h => ?_, hT⟩
  generalize hS1e : px + pz = S1 at *
  generalize hD1e : px - pz = D1 at *
  generalize hS2e : qx + qz = S2 at *
  generalize hD2e : qx - qz = D2 at *
  have hX : Z (2 * ((D2 * S1 + S2 * D1) * (D2 * S1 + S2 * D1))) := zl2 (c1 := 1 + ys) (c2 := 1) h hT (by grind)
  have hZ : Z (2 * (u * ((D2 * S1 - S2 * D1) * (D2 * S1 - S2 * D1)))) := zl2 (c1 := 1 - ys) (c2 := -1) h hT (by grind)
  have hab : Z (D2 * S1 + S2 * D1) := (Z_mul hX).elim (fun h => absurd h nZ2) fun h => (Z_mul h).elim id id
  have hba : Z (D2 * S1 - S2 * D1) := (Z_mul hZ).elim (fun h => absurd h nZ2) fun h => (Z_mul h).elim (fun h => absurd h h0) fun h => (Z_mul h).elim id id
  have ha : Z (2 * (D2 * S1)) := zl2 (c1 := 1) (c2 := 1) hab hba (by grind)
  have hb : Z (2 * (S2 * D1)) := zl2 (c1 := 1) (c2 := -1) hab hba (by grind)
  have hd2 : Z D2 := (Z_mul ha).elim (fun h => absurd h nZ2) fun h => (Z_mul h).elim id (fun h => absurd h hS1)
  have hd1 : Z D1 := (Z_mul hb).elim (fun h => absurd h nZ2) fun h => (Z_mul h).elim (fun h => absurd h hS2) id
  have hy1 : Z (y1 * S1) := zl2 (c1 := 1) (c2 := -1) hd1 hD1 (by grind)
  have hy2 : Z (y2 * S2) := zl2 (c1 := 1) (c2 := -1) hd2 hD2 (by grind)
  have hy1 : Z y1 := (Z_mul hy1).elim id fun h => absurd h hS1
  have hy2 : Z y2 := (Z_mul hy2).elim id fun h => absurd h hS2
  have hyd : Z (yd - x1 * x2) := zl2 (c1 := 1) (c2 := y2 - yd * d * x1 * x2 * y2) hB hy1 (by grind)
  have hx1 : Z (x1 ^ 2 - 1) := zl2 (c1 := 1) (c2 := - y1 + d * x1 ^ 2 * y1) k1 hy1 (by grind)
  have hx2 : Z (x2 ^ 2 - 1) := zl2 (c1 := 1) (c2 := - y2 + d * x2 ^ 2 * y2) k2 hy2 (by grind)
  have : Z ((1 - yd) * (1 + yd)) := zl3 (c1 := - (yd + x1 * x2)) (c2 := - x2 ^ 2) (c3 := -1) hyd hx1 hx2 (by grind)
  rcases Z_mul this with h | h
  · exact h1 h
  · have : Z (2 * u) := zl2 (c1 := 1) (c2 := u + 1) hu h (by grind)
    exact (Z_mul this).elim nZ2 h0

/-- The number that the first n bits make. -/
def nb (b : Nat → Bool) : Nat → Nat
  | 0 => 0
  | n + 1 => if b (254 - n) then nb b n + (nb b n + 1) else nb b n + nb b n

theorem mlE_one {P : Ed} (hP : OnC P) : mlE 1 P = P := by
  show edd oE P = P
  rw [edd_comm, edd_o hP]

theorem lad_rep {b : Nat → Bool} {u : Int} {Q : Ed} (hQ : OnC Q) (hu : Z (u * (1 - Q.y) - (1 + Q.y))) (h1 : ¬ Z (1 - Q.y)) (h0 : ¬ Z u) : ∀ n, Rep (lad b u n).1 (mlE (nb b n) Q) ∧ Rep (lad b u n).2 (mlE (nb b n + 1) Q) := by
  intro n
  induction n with
  | zero =>
    refine ⟨⟨nZ1, ⟨0, by simp [lad, nb, mlE, oE]⟩⟩, ?_⟩
    show Rep ⟨u, 1⟩ (mlE 1 Q)
    rw [mlE_one hQ]
    refine ⟨fun h => nZ2 ?_, zl1 (c := 1) hu (by grind)⟩
    exact zl2 (c1 := -1) (c2 := 1 - Q.y) hu h (by grind)
  | succ n ih =>
    obtain ⟨i1, i2⟩ := ih
    have hn := mlE_on hQ (nb b n)
    have hn1 := mlE_on hQ (nb b n + 1)
    have ha := dadd_rep (u := u) i1 i2 hn hn1 (by rw [mlE_diff hQ]; exact hu) (by rw [mlE_diff hQ]; exact h1) h0
    rw [mlE_add hQ] at ha
    simp only [lad, nb]
    split
    · have hd := dbl_rep i2 hn1
      rw [mlE_add hQ] at hd
      exact ⟨ha, by rw [show nb b n + (nb b n + 1) + 1 = nb b n + 1 + (nb b n + 1) by omega]; exact hd⟩
    · have hd := dbl_rep i1 hn
      rw [mlE_add hQ] at hd
      exact ⟨hd, by rw [show nb b n + nb b n + 1 = nb b n + (nb b n + 1) by omega]; exact ha⟩

/-- The number that stands for a point: 0 for none. -/
def UR (u : Int) (P : Ed) : Prop := (Z (1 - P.y) → Z u) ∧ (¬ Z (1 - P.y) → Z (u * (1 - P.y) - (1 + P.y)))

theorem smF_eqp {k : Nat → Int} {u v : Int} (h : Eqp u v) : Eqp (smF k u) (smF k v) := by
  have := (lad_eqp (b := bitF k) h 255).1
  exact this.1.mul (pwr_eqp this.2 255)

theorem bit254 (k : Nat → Int) : bitF k 254 = true := by simp [bitF]
theorem bit0 (k : Nat → Int) : bitF k 0 = false := by simp [bitF]

theorem lad_zero (k : Nat → Int) : ∀ n, (lad (bitF k) 0 (n + 1)).1 = ⟨0, 0⟩ := by
  intro n
  induction n with
  | zero =>
    show (if bitF k (254 - 0) then (dadd ⟨1, 0⟩ ⟨0, 1⟩ 0, dbl ⟨0, 1⟩) else (dbl ⟨1, 0⟩, dadd ⟨1, 0⟩ ⟨0, 1⟩ 0)).1 = _
    rw [if_pos (bit254 k)]
    rfl
  | succ n ih =>
    show (if bitF k (254 - (n + 1)) then (dadd (lad (bitF k) 0 (n + 1)).1 (lad (bitF k) 0 (n + 1)).2 0, dbl (lad (bitF k) 0 (n + 1)).2) else (dbl (lad (bitF k) 0 (n + 1)).1, dadd (lad (bitF k) 0 (n + 1)).1 (lad (bitF k) 0 (n + 1)).2 0)).1 = _
    rw [ih]
    split
    · simp [dadd, sq]
    · rfl

theorem smF_zero (k : Nat → Int) : smF k 0 = 0 := by
  have := lad_zero k 254
  unfold smF
  rw [this, Int.zero_mul]

theorem sm_rep {k : Nat → Int} {u : Int} {Q : Ed} (hQ : OnC Q) (h : UR u Q) : UR (smF k u) (mlE (nb (bitF k) 255) Q) := by
  by_cases h0 : Z u
  · -- nothing, or the point whose double is nothing
    have hs : Z (smF k u) := by
      have := smF_eqp (k := k) h0
      rwa [smF_zero] at this
    have hy : Z ((1 - Q.y) * (1 + Q.y)) := by
      by_cases h1 : Z (1 - Q.y)
      · exact zl1 (c := 1 + Q.y) h1 (by grind)
      · exact zl2 (c1 := - (1 - Q.y)) (c2 := (1 - Q.y) ^ 2) (h.2 h1) h0 (by grind)
    have hx : Z Q.x := by
      have hc := hQ.eq
      unfold crv at hc
      have : Z (Q.x * Q.x * (1 - dE)) := zl2 (c1 := 1) (c2 := 1 - dE * Q.x ^ 2) hc hy (by grind)
      rcases Z_mul this with h2 | h2
      · exact (Z_mul h2).elim id id
      · exfalso
        exact nonsq (s := 1) (zl1 (c := 1) h2 (by grind))
    have hdb : edd Q Q = oE := by
      have ex1 := edd_x hQ hQ
      have ey1 := edd_y hQ hQ
      obtain ⟨c1, c2⟩ := complete hQ.eq hQ.eq
      have et : tPQ Q Q = dE * Q.x * Q.x * Q.y * Q.y := rfl
      have en : nuX Q.x Q.y Q.x Q.y = Q.x * Q.y + Q.y * Q.x := rfl
      have em : nuY Q.x Q.y Q.x Q.y = Q.y * Q.y - Q.x * Q.x := rfl
      rw [en, et] at ex1
      rw [em, et] at ey1
      refine Ed.eq_of (edd_on hQ hQ) oE_on ?_ ?_
      · exact zl2 (c1 := 1) (c2 := 2 * Q.y - (edd Q Q).x * dE * Q.x * Q.y * Q.y) ex1 hx (by simp only [oE]; grind)
      · exact zl3 (c1 := 1) (c2 := (edd Q Q).y * dE * Q.x * Q.y * Q.y - Q.x) (c3 := -1) ey1 hx hy (by simp only [oE]; grind)
    have hev : mlE (nb (bitF k) 255) Q = oE := by
      have e : nb (bitF k) 255 = nb (bitF k) 254 * 2 := by
        show (if bitF k (254 - 254) then _ else nb (bitF k) 254 + nb (bitF k) 254) = _
        rw [if_neg (by rw [show 254 - 254 = 0 from rfl, bit0]; decide)]
        omega
      rw [e, ← mlE_mul hQ]
      have : mlE 2 Q = oE := by
        show edd (mlE 1 Q) Q = oE
        rw [mlE_one hQ, hdb]
      rw [this, mlE_o]
    rw [hev]
    exact ⟨fun _ => hs, fun hn => absurd ⟨0, by simp [oE]⟩ hn⟩
  · have h1 : ¬ Z (1 - Q.y) := fun e => h0 (h.1 e)
    obtain ⟨hS, hD⟩ := (lad_rep (b := bitF k) hQ (h.2 h1) h1 h0 255).1
    unfold smF
    change UR ((lad (bitF k) u 255).1.x * iv (lad (bitF k) u 255).1.z) _
    generalize (lad (bitF k) u 255).1 = p at *
    generalize mlE (nb (bitF k) 255) Q = R at *
    obtain ⟨x, z⟩ := p
    simp only at *
    constructor
    · intro hy
      have : Z (2 * z) := zl2 (c1 := -1) (c2 := x + z) hD hy (by grind)
      have hz : Z z := (Z_mul this).elim (fun h => absurd h nZ2) id
      exact zl1 (c := x) (iv_zero hz) rfl
    · intro hy
      have hz : ¬ Z z := fun hz => by
        have : Z (x * (1 - R.y)) := zl2 (c1 := 1) (c2 := 1 + R.y) hD hz (by grind)
        have hx : Z x := (Z_mul this).elim id fun h => absurd h hy
        exact hS (Z_add hx hz)
      exact zl2 (c1 := iv z) (c2 := 1 + R.y) hD (Eqp_iff.1 (iv_mul hz)) (by grind)

theorem UR_unique {u v : Int} {P : Ed} (h : UR u P) (k : UR v P) : Eqp u v := by
  by_cases hy : Z (1 - P.y)
  · exact (h.1 hy).trans (k.1 hy).symm
  · refine Eqp_iff.2 ?_
    have : Z ((u - v) * (1 - P.y)) := zl2 (c1 := 1) (c2 := -1) (h.2 hy) (k.2 hy) (by grind)
    exact (Z_mul this).elim id fun h => absurd h hy

/-- The base point. -/
def bE : Ed := ⟨9771384041963202563870679428059935816164187996444183106833894008023910952347, 46316835694926478169428394003475163141307993866256225615783033603165251855960⟩
theorem bE_on : OnC bE := ⟨Z_iff.2 ⟨crv dE bE.x bE.y / pF, by decide +kernel⟩, by decide +kernel, by decide +kernel⟩
theorem bE_nine : UR 9 bE := by
  have e : bE.y = 46316835694926478169428394003475163141307993866256225615783033603165251855960 := rfl
  refine ⟨fun h => ?_, fun _ => Z_iff.2 ⟨(9 * (1 - bE.y) - (1 + bE.y)) / pF, by decide +kernel⟩⟩
  exfalso
  have : Z (bE.y - 1) := zl1 (c := -1) h (by grind)
  exact not_Z_small (by rw [e]; decide) (by rw [e]; decide) this

/-- Two scalars' products agree. -/
theorem sm_agree (a b : Nat → Int) : Eqp (smF a (smF b 9)) (smF b (smF a 9)) := by
  have hA := sm_rep (k := a) bE_on bE_nine
  have hB := sm_rep (k := b) bE_on bE_nine
  have hAB := sm_rep (k := a) (mlE_on bE_on _) hB
  have hBA := sm_rep (k := b) (mlE_on bE_on _) hA
  rw [mlE_mul bE_on] at hAB hBA
  rw [Nat.mul_comm] at hBA
  exact UR_unique hAB hBA

end Go.Num

namespace Go.Num
open Go.Ab

def isB (n : Nat) (cells : List Value) : Bool := Nat.beq cells.length n && cells.all (isI .u8)
def rngB (cells : List Value) : Bool := cells.all fun v => hasB .u8 (vint v)

theorem isB_eq {n : Nat} {cells : List Value} (h : isB n cells = true) : cells = cellsI .u8 n (wd cells) := by
  simp only [isB, Bool.and_eq_true] at h
  have := cellsI_wd h.2
  rwa [Nat.eq_of_beq_eq_true h.1] at this

theorem rngB_wd {cells : List Value} (h : rngB cells = true) (i : Nat) : IntKind.u8.has (wd cells i) := by
  unfold wd atC
  by_cases hi : i < cells.length
  · rw [List.getElem?_eq_getElem hi, Option.getD_some]
    exact hasB_iff.1 (List.all_eq_true.1 h _ (List.getElem_mem hi))
  · rw [List.getElem?_eq_none (by omega)]
    exact (show IntKind.u8.has 0 from ⟨by decide, by decide⟩)

theorem rngB_cellsI {n : Nat} {x : Nat → Int} (h : ∀ i, IntKind.u8.has (x i)) : rngB (cellsI .u8 n x) = true := by
  unfold rngB
  rw [List.all_eq_true]
  intro v hv
  simp only [cellsI, List.mem_map] at hv
  obtain ⟨i, _, rfl⟩ := hv
  exact hasB_iff.2 (h i)

def chaSum (f : FuncId) : Sum :=
  { f := f, ro := true
    S := fun args os => match args, os with
      | [.agg ⟨kc⟩, .int .u32 c, .agg ⟨nc⟩], [] => if isB 32 kc && isB 12 nc then some (.agg ⟨blockF (wd kc) c (wd nc)⟩, [], []) else none
      | _, _ => none
    C := fun args _ => match args with
      | [.agg ⟨kc⟩, .int .u32 c, .agg ⟨nc⟩] => [(rngB kc, true), (rngB nc, true)]
      | _ => [] }

theorem chaSum_sound {P : Program} {M : Mem} {f : FuncId} {fn : Func} (hf : P.funcs[f]? = some fn) (hn : (fn.name == "runtime.NumGoroutine") = false) (hb : fn.body.isSome = true)
    (h : ∀ (k : Nat → Int) (c : Int) (n : Nat → Int), (∀ i, IntKind.u8.has (k i)) → (∀ i, IntKind.u8.has (n i)) → ACalls P M f [.agg ⟨cellsI .u8 32 k⟩, .int .u32 c, .agg ⟨cellsI .u8 12 n⟩] [] (.agg ⟨blockF k c n⟩) [] []) : (chaSum f).SoundC P M := by
  refine sumC_sound hf hn hb fun args os v os' ns hs hp => ?_
  simp only [chaSum] at hs hp ⊢
  split at hs
  · rename_i kc c nc
    split at hs
    · rename_i hk
      cases hs
      simp only [Bool.and_eq_true] at hk
      have h1 : rngB kc = true := hp (rngB kc, true) (List.Mem.head _)
      have h2 : rngB nc = true := hp (rngB nc, true) (List.Mem.tail _ (List.Mem.head _))
      have := h (wd kc) c (wd nc) (rngB_wd h1) (rngB_wd h2)
      rw [← isB_eq hk.1, ← isB_eq hk.2] at this
      exact ⟨this, fun _ => rfl⟩
    · cases hs
  · cases hs

def hchaSum (f : FuncId) : Sum :=
  { f := f, ro := true
    S := fun args os => match args, os with
      | [.agg ⟨kc⟩, .agg ⟨nc⟩], [] => if isB 32 kc && isB 16 nc then some (.agg ⟨keyF (wd kc) (wd nc)⟩, [], []) else none
      | _, _ => none
    C := fun args _ => match args with
      | [.agg ⟨kc⟩, .agg ⟨nc⟩] => [(rngB kc, true), (rngB nc, true)]
      | _ => [] }

theorem hchaSum_sound {P : Program} {M : Mem} {f : FuncId} {fn : Func} (hf : P.funcs[f]? = some fn) (hn : (fn.name == "runtime.NumGoroutine") = false) (hb : fn.body.isSome = true)
    (h : ∀ (k n : Nat → Int), (∀ i, IntKind.u8.has (k i)) → (∀ i, IntKind.u8.has (n i)) → ACalls P M f [.agg ⟨cellsI .u8 32 k⟩, .agg ⟨cellsI .u8 16 n⟩] [] (.agg ⟨keyF k n⟩) [] []) : (hchaSum f).SoundC P M := by
  refine sumC_sound hf hn hb fun args os v os' ns hs hp => ?_
  simp only [hchaSum] at hs hp ⊢
  split at hs
  · rename_i kc nc
    split at hs
    · rename_i hk
      cases hs
      simp only [Bool.and_eq_true] at hk
      have h1 : rngB kc = true := hp (rngB kc, true) (List.Mem.head _)
      have h2 : rngB nc = true := hp (rngB nc, true) (List.Mem.tail _ (List.Mem.head _))
      have := h (wd kc) (wd nc) (rngB_wd h1) (rngB_wd h2)
      rw [← isB_eq hk.1, ← isB_eq hk.2] at this
      exact ⟨this, fun _ => rfl⟩
    · cases hs
  · cases hs

theorem key_range {k n : Nat → Int} : rngB (keyF k n) = true := by
  unfold rngB keyF keyW
  rw [List.all_eq_true]
  intro v hv
  obtain ⟨j, _, rfl⟩ := List.mem_map.1 hv
  exact hasB_iff.2 (byteL_range _ _)

theorem block_range {k : Nat → Int} {c : Int} {n : Nat → Int} : rngB (blockF k c n) = true := by
  unfold rngB blockF blockW
  rw [List.all_eq_true]
  intro v hv
  obtain ⟨j, _, rfl⟩ := List.mem_map.1 hv
  exact hasB_iff.2 (byteL_range _ _)

end Go.Num

namespace Go.Num
open Go.Ab

theorem byte_all {P : Int → Prop} (h : ∀ a : Fin 256, P (a.val : Int)) {x : Int} (hx : IntKind.u8.has x) : P x := by
  obtain ⟨h1, h2⟩ := has_u8 hx
  obtain ⟨n, rfl⟩ := Int.eq_ofNat_of_zero_le h1
  exact h ⟨n, by omega⟩

theorem and248 {x : Int} (hx : IntKind.u8.has x) : bits .and .u8 x 248 = x / 8 * 8 := byte_all (P := fun x => bits .and .u8 x 248 = x / 8 * 8) (by decide +kernel) hx
theorem and127 {x : Int} (hx : IntKind.u8.has x) : bits .and .u8 x 127 = x % 128 := byte_all (P := fun x => bits .and .u8 x 127 = x % 128) (by decide +kernel) hx
theorem and1 {x : Int} (hx : IntKind.u8.has x) : bits .and .u8 x 1 = x % 2 := byte_all (P := fun x => bits .and .u8 x 1 = x % 2) (by decide +kernel) hx
theorem clamp31 {x : Int} (hx : IntKind.u8.has x) : bits .or .u8 (bits .and .u8 x 127) 64 = x % 64 + 64 := byte_all (P := fun x => bits .or .u8 (bits .and .u8 x 127) 64 = x % 64 + 64) (by decide +kernel) hx

/-- The clamped scalar. -/
def clK (k : Nat → Int) (i : Nat) : Int := bif Nat.beq i 0 then k 0 / 8 * 8 else bif Nat.beq i 31 then k 31 % 64 + 64 else k i
/-- The point without its top bit. -/
def clP (p : Nat → Int) (i : Nat) : Int := bif Nat.beq i 31 then p 31 % 128 else p i

theorem clK_range {k : Nat → Int} (hk : ∀ i, IntKind.u8.has (k i)) (i : Nat) : IntKind.u8.has (clK k i) := by
  have h0 := has_u8 (hk 0); have h31 := has_u8 (hk 31); have hi := has_u8 (hk i)
  show 0 ≤ _ ∧ _ ≤ (255 : Int)
  unfold clK
  cases Nat.beq i 0 <;> cases Nat.beq i 31 <;> simp only [cond_true, cond_false] <;> omega
theorem clP_range {k : Nat → Int} (hk : ∀ i, IntKind.u8.has (k i)) (i : Nat) : IntKind.u8.has (clP k i) := by
  have h31 := has_u8 (hk 31); have hi := has_u8 (hk i)
  show 0 ≤ _ ∧ _ ≤ (255 : Int)
  unfold clP
  cases Nat.beq i 31 <;> simp only [cond_true, cond_false] <;> omega

theorem clP_val {p : Nat → Int} (hp : ∀ i, IntKind.u8.has (p i)) : val 256 (clP p) 32 = val 256 p 32 % 57896044618658097711785492504343953926634992332820282019728792003956564819968 := by
  have e1 : val 256 (clP p) 32 = val 256 (clP p) 31 + clP p 31 * 256 ^ 31 := rfl
  have e2 : val 256 p 32 = val 256 p 31 + p 31 * 256 ^ 31 := rfl
  have e3 : val 256 (clP p) 31 = val 256 p 31 := val_congr fun i hi => by
    have : Nat.beq i 31 = false := by rw [Bool.eq_false_iff]; exact fun e => by have := Nat.eq_of_beq_eq_true e; omega
    simp [clP, this]
  have e4 : clP p 31 = p 31 % 128 := rfl
  have hr := val_range (B := 256) (by decide) (d := p) (n := 31) fun i _ => by have := has_u8 (hp i); omega
  have hB : (256 : Int) ^ 31 = 452312848583266388373324160190187140051835877600158453279131187530910662656 := by decide
  have h31 := has_u8 (hp 31)
  rw [hB] at *
  rw [e1, e2, e3, e4]
  omega

theorem bit_clK {k : Nat → Int} (hk : ∀ i, IntKind.u8.has (k i)) {n : Nat} (hn : n ≤ 254) : decide (clK k (n / 8) / 2 ^ (n % 8) % 2 = 1) = bitF k n := by
  have h0 := has_u8 (hk 0); have h31 := has_u8 (hk 31)
  unfold bitF clK
  by_cases hlo : n / 8 = 0
  · have hb : Nat.beq (n / 8) 0 = true := by rw [hlo]; rfl
    rw [hb]
    simp only [cond_true]
    rw [hlo]
    have e : n % 8 = n := by omega
    rw [e]
    rcases (by omega : n = 0 ∨ n = 1 ∨ n = 2 ∨ n = 3 ∨ n = 4 ∨ n = 5 ∨ n = 6 ∨ n = 7) with rfl | rfl | rfl | rfl | rfl | rfl | rfl | rfl <;> simp <;> omega
  · have hb : Nat.beq (n / 8) 0 = false := by rw [Bool.eq_false_iff]; exact fun e => hlo (Nat.eq_of_beq_eq_true e)
    rw [hb]
    simp only [cond_false]
    rw [if_neg (by omega)]
    by_cases hhi : n / 8 = 31
    · have hb : Nat.beq (n / 8) 31 = true := by rw [hhi]; rfl
      rw [hb]
      simp only [cond_true]
      rw [hhi]
      rcases (by omega : n = 248 ∨ n = 249 ∨ n = 250 ∨ n = 251 ∨ n = 252 ∨ n = 253 ∨ n = 254) with rfl | rfl | rfl | rfl | rfl | rfl | rfl <;> simp <;> omega
    · have hb : Nat.beq (n / 8) 31 = false := by rw [Bool.eq_false_iff]; exact fun e => hhi (Nat.eq_of_beq_eq_true e)
      rw [hb, if_neg (by omega)]
      simp only [cond_false]

theorem lad_congr {b c : Nat → Bool} {u : Int} (h : ∀ n, n ≤ 254 → b n = c n) : ∀ n, lad b u n = lad c u n := by
  intro n
  induction n with
  | zero => rfl
  | succ n ih => simp only [lad, ih, h (254 - n) (by omega)]

end Go.Num

