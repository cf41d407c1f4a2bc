/- Plain laws over numbers and lists, and contracts that any seat can use.
   Conditions: named in each. -/
import Derived.Test.YtfkdcpinajnbfaaDoorAbC
import Derived.Laws.Bits64b
import Derived.Laws.MathBits
import Derived.Laws.Externs
set_option linter.unusedVariables false
set_option linter.unusedSimpArgs false
namespace Go.Num

/-- The number that the first n digits make. -/
def val (B : Int) (t : Nat → Int) : Nat → Int
  | 0 => 0
  | n + 1 => val B t n + t n * B ^ n

theorem val_congr {B : Int} {s t : Nat → Int} : ∀ {n : Nat}, (∀ i, i < n → s i = t i) → val B s n = val B t n := by
  intro n
  induction n with
  | zero => intro _; rfl
  | succ n ih => intro h; simp only [val]; rw [ih fun i hi => h i (by omega), h n (by omega)]

theorem val_add {B : Int} {s t : Nat → Int} : ∀ {n : Nat}, val B (fun i => s i + t i) n = val B s n + val B t n := by
  intro n
  induction n with
  | zero => rfl
  | succ n ih => simp only [val]; rw [ih]; grind

theorem val_smul {B c : Int} {t : Nat → Int} : ∀ {n : Nat}, val B (fun i => c * t i) n = c * val B t n := by
  intro n
  induction n with
  | zero => simp [val]
  | succ n ih => simp only [val]; rw [ih]; grind

/-- The digits from m on. -/
theorem val_split {B : Int} {t : Nat → Int} {m : Nat} : ∀ {n : Nat}, val B t (m + n) = val B t m + B ^ m * val B (fun i => t (m + i)) n := by
  intro n
  induction n with
  | zero => simp [val]
  | succ n ih =>
    rw [← Nat.add_assoc]
    simp only [val]
    rw [ih, Int.pow_add]
    grind

def upd (t : Nat → Int) (k : Nat) (v : Int) : Nat → Int := fun i => bif Nat.beq i k then v else t i

theorem upd_self (t : Nat → Int) (k : Nat) (v : Int) : upd t k v k = v := by simp [upd]
theorem upd_ne {t : Nat → Int} {k : Nat} {v : Int} {i : Nat} (h : i ≠ k) : upd t k v i = t i := by
  have : Nat.beq i k = false := by rw [Bool.eq_false_iff]; exact fun e => h (Nat.eq_of_beq_eq_true e)
  simp [upd, this]

theorem val_upd {B : Int} {t : Nat → Int} {k : Nat} {v : Int} : ∀ {n : Nat}, k < n → val B (upd t k v) n = val B t n + (v - t k) * B ^ k := by
  intro n
  induction n with
  | zero => intro h; omega
  | succ n ih =>
    intro h
    simp only [val]
    by_cases hk : k = n
    · subst hk
      rw [upd_self, val_congr (s := upd t k v) (t := t) fun i hi => upd_ne (by omega)]
      grind
    · rw [ih (by omega), upd_ne (by omega)]
      grind

/-- One row of a product, added. -/
def convI (w : Int → Int) (x y : Nat → Int) (i : Nat) : Nat → (Nat → Int) → (Nat → Int)
  | 0, t => t
  | j + 1, t => upd (convI w x y i j t) (i + j) (w (convI w x y i j t (i + j) + w (x i * y j)))
def convO (w : Int → Int) (x y : Nat → Int) (n : Nat) : Nat → (Nat → Int)
  | 0 => fun _ => 0
  | i + 1 => convI w x y i n (convO w x y n i)

theorem convI_val {B : Int} {x y : Nat → Int} {i N : Nat} : ∀ {j : Nat} {t : Nat → Int}, i + j ≤ N → val B (convI id x y i j t) N = val B t N + x i * B ^ i * val B y j := by
  intro j
  induction j with
  | zero => intro t _; simp [convI, val]
  | succ j ih =>
    intro t h
    simp only [convI, val, id]
    rw [val_upd (by omega), ih (by omega), Int.pow_add]
    grind

theorem val_zero {B : Int} (k : Nat) : val B (fun _ => 0) k = 0 := by
  induction k with
  | zero => rfl
  | succ k ih => simp [val, ih]

theorem convO_val {B : Int} {x y : Nat → Int} {n N : Nat} : ∀ {m : Nat}, m + n ≤ N + 1 → val B (convO id x y n m) N = val B x m * val B y n := by
  intro m
  induction m with
  | zero => intro _; simp [convO, val, val_zero]
  | succ m ih =>
    intro h
    simp only [convO, val]
    rw [convI_val (by omega), ih (by omega)]
    grind

/-- Digits in bounds: no sum leaves its bound, so that wrapping changes nothing. -/
theorem convI_le {w : Int → Int} {x y : Nat → Int} {n i : Nat} {Q T : Int} (hq : ∀ j, j < n → 0 ≤ x i * y j ∧ x i * y j ≤ Q) (hQ : 0 ≤ Q) (hT : 0 ≤ T) (hw : ∀ a, 0 ≤ a → a ≤ T + Q → w a = a) :
    ∀ {j : Nat} {t : Nat → Int}, j ≤ n → (∀ k, 0 ≤ t k ∧ t k ≤ T) → convI w x y i j t = convI id x y i j t ∧ (∀ k, 0 ≤ convI id x y i j t k ∧ convI id x y i j t k ≤ T + Q ∧ (i + j ≤ k → convI id x y i j t k ≤ T)) := by
  intro j
  induction j with
  | zero =>
    intro t _ ht
    refine ⟨rfl, fun k => ?_⟩
    have := ht k
    simp only [convI]
    exact ⟨this.1, by omega, fun _ => this.2⟩
  | succ j ih =>
    intro t hj ht
    obtain ⟨h1, h2⟩ := ih (by omega) ht
    have hp := hq j (by omega)
    have hs := h2 (i + j)
    have hs3 := hs.2.2 (Nat.le_refl _)
    simp only [convI, h1, id]
    rw [hw (x i * y j) hp.1 (by omega), hw _ (by omega) (by omega)]
    refine ⟨rfl, fun k => ?_⟩
    by_cases hk : k = i + j
    · subst hk
      rw [upd_self]
      exact ⟨by omega, by omega, fun h => by omega⟩
    · rw [upd_ne hk]
      have := h2 k
      exact ⟨this.1, this.2.1, fun h => this.2.2 (by omega)⟩

theorem convO_le {w : Int → Int} {x y : Nat → Int} {n : Nat} {Q : Int} {M : Nat} (hq : ∀ i j, i < M → j < n → 0 ≤ x i * y j ∧ x i * y j ≤ Q) (hQ : 0 ≤ Q) (hw : ∀ a, 0 ≤ a → a ≤ M * Q → w a = a) :
    ∀ {m : Nat}, m ≤ M → convO w x y n m = convO id x y n m ∧ ∀ k, 0 ≤ convO id x y n m k ∧ convO id x y n m k ≤ m * Q := by
  intro m
  induction m with
  | zero => intro _; exact ⟨rfl, fun k => by simp [convO]⟩
  | succ m ih =>
    intro hm
    obtain ⟨h1, h2⟩ := ih (by omega)
    have e : ((m + 1 : Nat) : Int) * Q = m * Q + Q := by rw [Int.natCast_add, Int.add_mul]; simp
    have hmQ : 0 ≤ (m : Int) * Q := Int.mul_nonneg (by omega) hQ
    have hle : (m : Int) * Q + Q ≤ M * Q := by rw [← e]; exact Int.mul_le_mul_of_nonneg_right (by omega) hQ
    obtain ⟨h3, h4⟩ := convI_le (w := w) (i := m) (fun j hj => hq m j (by omega) hj) hQ hmQ (fun a ha hb => hw a ha (by omega)) (Nat.le_refl n) h2
    simp only [convO, h1, h3]
    refine ⟨trivial, fun k => ?_⟩
    have := h4 k
    rw [e]
    exact ⟨this.1, this.2.1⟩

/-- The carry into digit k. -/
def car (B : Int) (t : Nat → Int) : Nat → Int
  | 0 => 0
  | k + 1 => (car B t k + t k) / B

def dig (B : Int) (t : Nat → Int) (k : Nat) : Int := (car B t k + t k) % B

theorem dig_range {B : Int} (hB : 0 < B) (t : Nat → Int) (k : Nat) : 0 ≤ dig B t k ∧ dig B t k < B := ⟨Int.emod_nonneg _ (by omega), Int.emod_lt_of_pos _ hB⟩

theorem dig_val {B : Int} {t : Nat → Int} : ∀ {n : Nat}, val B (dig B t) n + car B t n * B ^ n = val B t n := by
  intro n
  induction n with
  | zero => simp [val, car]
  | succ n ih =>
    simp only [val, car, dig]
    have e : car B t n + t n = B * ((car B t n + t n) / B) + (car B t n + t n) % B := (Int.mul_ediv_add_emod _ _).symm
    have : t n = B * ((car B t n + t n) / B) + (car B t n + t n) % B - car B t n := by omega
    rw [← ih, Int.pow_succ]
    generalize (car B t n + t n) / B = c at *
    generalize (car B t n + t n) % B = d at *
    rw [this]
    grind

theorem car_range {B : Int} {t : Nat → Int} {T C : Int} (hB : 0 < B) (hC : 0 ≤ C) (hCT : C + T < B * (C + 1)) {n : Nat} (ht : ∀ k, k < n → 0 ≤ t k ∧ t k ≤ T) : ∀ {k : Nat}, k ≤ n → 0 ≤ car B t k ∧ car B t k ≤ C := by
  intro k
  induction k with
  | zero => intro _; exact ⟨Int.le_refl 0, hC⟩
  | succ k ih =>
    intro hk
    obtain ⟨h1, h2⟩ := ih (by omega)
    have h3 := ht k (by omega)
    simp only [car]
    refine ⟨Int.ediv_nonneg (by omega) (by omega), ?_⟩
    have : (car B t k + t k) / B < C + 1 := Int.ediv_lt_of_lt_mul hB (by rw [Int.mul_comm]; omega)
    omega

theorem val_range {B : Int} (hB : 0 < B) {d : Nat → Int} : ∀ {n : Nat}, (∀ i, i < n → 0 ≤ d i ∧ d i < B) → 0 ≤ val B d n ∧ val B d n < B ^ n := by
  intro n
  induction n with
  | zero => intro _; simp [val]
  | succ n ih =>
    intro h
    obtain ⟨h1, h2⟩ := ih fun i hi => h i (by omega)
    obtain ⟨h3, h4⟩ := h n (by omega)
    simp only [val]
    have hp : 0 < B ^ n := Int.pow_pos hB
    refine ⟨Int.add_nonneg h1 (Int.mul_nonneg h3 (by omega)), ?_⟩
    have : d n * B ^ n ≤ (B - 1) * B ^ n := Int.mul_le_mul_of_nonneg_right (by omega) (by omega)
    rw [Int.pow_succ]
    have e : (B - 1) * B ^ n = B ^ n * B - B ^ n := by grind
    omega

theorem val_div {B : Int} (hB : 0 < B) {d : Nat → Int} {k m : Nat} (h : ∀ i, i < k → 0 ≤ d i ∧ d i < B) : val B d (k + m) / B ^ k = val B (fun i => d (k + i)) m := by
  obtain ⟨h1, h2⟩ := val_range hB h
  have hp : 0 < B ^ k := Int.pow_pos hB
  rw [val_split, Int.add_mul_ediv_left _ _ (by omega), Int.ediv_eq_zero_of_lt h1 h2, Int.zero_add]

theorem val_mod {B : Int} (hB : 0 < B) {d : Nat → Int} {k m : Nat} (h : ∀ i, i < k → 0 ≤ d i ∧ d i < B) : val B d (k + m) % B ^ k = val B d k := by
  obtain ⟨h1, h2⟩ := val_range hB h
  rw [val_split, Int.add_mul_emod_self_left, Int.emod_eq_of_lt h1 h2]

/-- A digit out of the number. -/
theorem val_digit {B : Int} (hB : 0 < B) {d : Nat → Int} {k n : Nat} (hk : k < n) (h : ∀ i, i < n → 0 ≤ d i ∧ d i < B) : d k = val B d n / B ^ k % B := by
  have e : n = k + (1 + (n - k - 1)) := by omega
  rw [e, val_div hB fun i hi => h i (by omega)]
  have h1 : ∀ i, i < 1 → 0 ≤ d (k + i) ∧ d (k + i) < B := fun i hi => h _ (by omega)
  have := val_mod hB (d := fun i => d (k + i)) (k := 1) (m := n - k - 1) h1
  rw [Int.pow_succ, Int.pow_zero, Int.one_mul] at this
  rw [this]
  simp [val]

theorem val_inj {B : Int} (hB : 0 < B) {d e : Nat → Int} {n : Nat} (hd : ∀ i, i < n → 0 ≤ d i ∧ d i < B) (he : ∀ i, i < n → 0 ≤ e i ∧ e i < B) (h : val B d n = val B e n) : ∀ i, i < n → d i = e i := fun i hi => by
  rw [val_digit hB hi hd, val_digit hB hi he, h]

/-- Carried through, a number that n digits can hold keeps its value. -/
theorem car_out {B : Int} (hB : 0 < B) {t : Nat → Int} {n : Nat} : car B t n = val B t n / B ^ n ∧ val B (dig B t) n = val B t n % B ^ n := by
  have h := dig_val (B := B) (t := t) (n := n)
  obtain ⟨h1, h2⟩ := val_range hB (d := dig B t) (n := n) fun i _ => dig_range hB t i
  have hp : 0 < B ^ n := Int.pow_pos hB
  rw [← h, Int.add_mul_ediv_right _ _ (by omega), Int.ediv_eq_zero_of_lt h1 h2, Int.add_mul_emod_self_right, Int.emod_eq_of_lt h1 h2]
  simp

end Go.Num

namespace Go.Num
open Go.Ab

theorem ofInt_nat {w a : Nat} (h : a < 2 ^ w) : (BitVec.ofInt w (a : Int)).toNat = a := by
  rw [BitVec.ofInt_natCast, BitVec.toNat_ofNat]; exact Nat.mod_eq_of_lt h

theorem or_nat32 {a b : Nat} (ha : a < 4294967296) (hb : b < 4294967296) : bits .or .u32 (a : Int) (b : Int) = ((a ||| b : Nat) : Int) := by
  have hx : a ||| b < 2 ^ 32 := Nat.or_lt_two_pow (by omega) (by omega)
  show IntKind.u32.wrap ((BitVec.ofInt 32 (a : Int) ||| BitVec.ofInt 32 (b : Int)).toNat : Int) = _
  rw [BitVec.toNat_or, ofInt_nat (by omega), ofInt_nat (by omega), wrap_u32]
  omega

/-- Bits above joined to bits below. -/
theorem or_add32 {a b : Int} {k : Nat} (ha : 0 ≤ a) (h : a * 2 ^ k < 4294967296) (hb : 0 ≤ b) (hk : b < 2 ^ k) (hb2 : b < 4294967296) : bits .or .u32 (a * 2 ^ k) b = a * 2 ^ k + b := by
  obtain ⟨x, rfl⟩ := Int.eq_ofNat_of_zero_le ha
  obtain ⟨y, rfl⟩ := Int.eq_ofNat_of_zero_le hb
  have e : (x : Int) * 2 ^ k = ((2 ^ k * x : Nat) : Int) := by rw [Int.natCast_mul, Int.natCast_pow, Int.mul_comm]; rfl
  have hy : y < 2 ^ k := by exact_mod_cast hk
  rw [e] at h ⊢
  rw [or_nat32 (by omega) (by omega), ← Nat.two_pow_add_eq_or_of_lt hy, Int.natCast_add]

theorem or_comm32 (a b : Int) : bits .or .u32 a b = bits .or .u32 b a := by
  show IntKind.u32.wrap ((BitVec.ofInt 32 a ||| BitVec.ofInt 32 b).toNat : Int) = IntKind.u32.wrap ((BitVec.ofInt 32 b ||| BitVec.ofInt 32 a).toNat : Int)
  rw [BitVec.or_comm]
theorem or_comm64 (a b : Int) : bits .or .u64 a b = bits .or .u64 b a := by
  show IntKind.u64.wrap ((BitVec.ofInt 64 a ||| BitVec.ofInt 64 b).toNat : Int) = IntKind.u64.wrap ((BitVec.ofInt 64 b ||| BitVec.ofInt 64 a).toNat : Int)
  rw [BitVec.or_comm]

theorem or_add64 {a b : Int} {k : Nat} (ha : 0 ≤ a) (h : a * 2 ^ k < 18446744073709551616) (hb : 0 ≤ b) (hk : b < 2 ^ k) (hb2 : b < 18446744073709551616) : bits .or .u64 (a * 2 ^ k) b = a * 2 ^ k + b := by
  obtain ⟨x, rfl⟩ := Int.eq_ofNat_of_zero_le ha
  obtain ⟨y, rfl⟩ := Int.eq_ofNat_of_zero_le hb
  have e : (x : Int) * 2 ^ k = ((2 ^ k * x : Nat) : Int) := by rw [Int.natCast_mul, Int.natCast_pow, Int.mul_comm]; rfl
  have hy : y < 2 ^ k := by exact_mod_cast hk
  rw [e] at h ⊢
  rw [bits_or_u64_nat _ _ (by omega) (by omega), ← Nat.two_pow_add_eq_or_of_lt hy, Int.natCast_add]

/-- A mask of k low bits. -/
theorem and_mask64 {a : Int} {k : Nat} (ha : 0 ≤ a) (h : a < 18446744073709551616) (hk : k ≤ 63) : bits .and .u64 a (2 ^ k - 1) = a % 2 ^ k := by
  obtain ⟨x, rfl⟩ := Int.eq_ofNat_of_zero_le ha
  have hp : (2 : Nat) ^ k ≤ 2 ^ 63 := Nat.pow_le_pow_right (by omega) hk
  have h0 : 0 < (2 : Nat) ^ k := Nat.two_pow_pos k
  have e : (2 : Int) ^ k - 1 = ((2 ^ k - 1 : Nat) : Int) := by rw [Int.natCast_sub h0, Int.natCast_pow]; rfl
  rw [e, bits_and_u64_nat _ _ (by omega) (by omega), Nat.and_two_pow_sub_one_eq_mod, Int.natCast_emod, Int.natCast_pow]
  rfl

theorem bits_range32 (op : BinOp) (a b : Int) : IntKind.u32.has (bits op .u32 a b) := by
  unfold bits
  have : ∀ n, IntKind.u32.has (IntKind.u32.wrap n) := fun n => by rw [wrap_u32]; show 0 ≤ _ ∧ _ ≤ (4294967295 : Int); omega
  exact this _

end Go.Num

namespace Go.Num
open Go.Ab

def add32 (a b : Int) : Int := IntKind.wrap .u32 (a + b)
def xor32 (a b : Int) : Int := bits .xor .u32 a b
/-- Turned left by k. -/
def rot32 (k : Nat) (x : Int) : Int := x % 2 ^ (32 - k) * 2 ^ k + x / 2 ^ (32 - k)

theorem xor32_range (a b : Int) : IntKind.u32.has (xor32 a b) := bits_range32 _ _ _
theorem add32_range (a b : Int) : IntKind.u32.has (add32 a b) := by rw [add32, wrap_u32]; show 0 ≤ _ ∧ _ ≤ (4294967295 : Int); omega

/-- As the library's text turns. -/
def rotI (k : Nat) (x : Int) : Int := bits .or .u32 (IntKind.wrap .u32 (x * 2 ^ min (IntKind.u64.wrap (bits .and .u64 (IntKind.u64.wrap k) 31)).toNat 32)) (x.fdiv (2 ^ min (IntKind.u64.wrap (32 - bits .and .u64 (IntKind.u64.wrap k) 31)).toNat 32))

def Turns (k : Nat) : Prop := k = 16 ∨ k = 12 ∨ k = 8 ∨ k = 7

theorem rotL_eq {k : Nat} (hk : Turns k) {x : Int} (h : IntKind.u32.has x) : bits .or .u32 (IntKind.wrap .u32 (x * 2 ^ k)) (x.fdiv (2 ^ (32 - k))) = rot32 k x := by
  obtain ⟨h1, h2⟩ := has_u32 h
  rw [Int.fdiv_eq_ediv_of_nonneg _ (Int.le_of_lt (Int.pow_pos (by omega)))]
  have e : IntKind.wrap .u32 (x * 2 ^ k) = x % 2 ^ (32 - k) * 2 ^ k := by
    rw [wrap_u32]
    rcases hk with rfl | rfl | rfl | rfl <;> simp only [Nat.reduceSub, Int.reducePow] <;> omega
  rw [e, rot32]
  refine or_add32 (Int.emod_nonneg _ (Int.ne_of_gt (Int.pow_pos (by omega)))) ?_ (Int.ediv_nonneg h1 (Int.le_of_lt (Int.pow_pos (by omega)))) ?_ ?_
  all_goals rcases hk with rfl | rfl | rfl | rfl <;> simp only [Nat.reduceSub, Int.reducePow] <;> omega

theorem rotR_eq {k : Nat} (hk : Turns k) {x : Int} (h : IntKind.u32.has x) :
    IntKind.u32.wrap (IntKind.u32.wrap (x.tdiv (IntKind.u32.wrap (1 * 2 ^ (32 - k)))) + IntKind.u32.wrap (x.tmod (IntKind.u32.wrap (1 * 2 ^ (32 - k))) * IntKind.u32.wrap (1 * 2 ^ k))) = rot32 k x := by
  obtain ⟨h1, h2⟩ := has_u32 h
  rw [Int.tdiv_eq_ediv_of_nonneg h1, Int.tmod_eq_emod_of_nonneg h1]
  simp only [wrap_u32, rot32]
  rcases hk with rfl | rfl | rfl | rfl <;> simp only [Nat.reduceSub, Int.reducePow, Int.one_mul, Int.reduceMod] <;> omega

/-- A quarter at four places. -/
def qF (x : Nat → Int) (a b c d : Nat) : Nat → Int :=
  let x1 := upd x a (add32 (x a) (x b))
  let x2 := upd x1 d (rot32 16 (xor32 (x1 d) (x1 a)))
  let x3 := upd x2 c (add32 (x2 c) (x2 d))
  let x4 := upd x3 b (rot32 12 (xor32 (x3 b) (x3 c)))
  let x5 := upd x4 a (add32 (x4 a) (x4 b))
  let x6 := upd x5 d (rot32 8 (xor32 (x5 d) (x5 a)))
  let x7 := upd x6 c (add32 (x6 c) (x6 d))
  upd x7 b (rot32 7 (xor32 (x7 b) (x7 c)))

def quads : List (Nat × Nat × Nat × Nat) := [(0, 4, 8, 12), (1, 5, 9, 13), (2, 6, 10, 14), (3, 7, 11, 15), (0, 5, 10, 15), (1, 6, 11, 12), (2, 7, 8, 13), (3, 4, 9, 14)]
def quadB (a b c d : Int) : Bool := (decide (a = 0) && decide (b = 4) && decide (c = 8) && decide (d = 12)) || (decide (a = 1) && decide (b = 5) && decide (c = 9) && decide (d = 13)) || (decide (a = 2) && decide (b = 6) && decide (c = 10) && decide (d = 14)) ||
  (decide (a = 3) && decide (b = 7) && decide (c = 11) && decide (d = 15)) || (decide (a = 0) && decide (b = 5) && decide (c = 10) && decide (d = 15)) || (decide (a = 1) && decide (b = 6) && decide (c = 11) && decide (d = 12)) ||
  (decide (a = 2) && decide (b = 7) && decide (c = 8) && decide (d = 13)) || (decide (a = 3) && decide (b = 4) && decide (c = 9) && decide (d = 14))

/-- The words that stand in these cells. -/
def wd (cells : List Value) : Nat → Int := fun i => vint (atC cells i)

def isW (cells : List Value) : Bool := Nat.beq cells.length 16 && cells.all (isI .u32)

theorem cellsI_wd {k : IntKind} {cells : List Value} (h : cells.all (isI k) = true) : cells = cellsI k cells.length (wd cells) := by
  apply List.ext_getElem (by simp [cellsI])
  intro i h1 h2
  have := isI_eq (List.all_eq_true.1 h _ (List.getElem_mem h1))
  rw [this]
  simp [cellsI, wd, atC, h1]

theorem wd_cellsI {k : IntKind} {n : Nat} {x : Nat → Int} {i : Nat} (hi : i < n) : wd (cellsI k n x) i = x i := by
  simp [wd, atC, cellsI, hi, vint]

/-- A quarter of cells. -/
def qC (cells : List Value) (q : Nat × Nat × Nat × Nat) : List Value := cellsI .u32 16 (qF (wd cells) q.1 q.2.1 q.2.2.1 q.2.2.2)

def roundsC (cells : List Value) : List Value := (quads ++ quads ++ quads ++ quads ++ quads ++ quads ++ quads ++ quads ++ quads ++ quads).foldl qC cells

/-- Four bytes as a word, as the program reads them. -/
def wordI (b0 b1 b2 b3 : Int) : Int := bits .or .u32 (bits .or .u32 (bits .or .u32 (bits .or .u32 0 (IntKind.u32.wrap (IntKind.u32.wrap b3 * 2 ^ 24))) (IntKind.u32.wrap (IntKind.u32.wrap b2 * 2 ^ 16))) (IntKind.u32.wrap (IntKind.u32.wrap b1 * 2 ^ 8))) (IntKind.u32.wrap b0)
/-- And as the specification does. -/
def wordS (b0 b1 b2 b3 : Int) : Int := IntKind.u32.wrap (IntKind.u32.wrap (IntKind.u32.wrap (IntKind.u32.wrap (IntKind.u32.wrap (IntKind.u32.wrap (IntKind.u32.wrap (IntKind.u32.wrap (0 * 256) + IntKind.u32.wrap b3) * 256) + IntKind.u32.wrap b2) * 256) + IntKind.u32.wrap b1) * 256) + IntKind.u32.wrap b0)
def word (b0 b1 b2 b3 : Int) : Int := b0 + 256 * b1 + 65536 * b2 + 16777216 * b3

theorem wordS_eq {b0 b1 b2 b3 : Int} (h0 : IntKind.u8.has b0) (h1 : IntKind.u8.has b1) (h2 : IntKind.u8.has b2) (h3 : IntKind.u8.has b3) : wordS b0 b1 b2 b3 = word b0 b1 b2 b3 := by
  have := has_u8 h0; have := has_u8 h1; have := has_u8 h2; have := has_u8 h3
  simp only [wordS, word, wrap_u32]
  omega

theorem wordI_eq {b0 b1 b2 b3 : Int} (h0 : IntKind.u8.has b0) (h1 : IntKind.u8.has b1) (h2 : IntKind.u8.has b2) (h3 : IntKind.u8.has b3) : wordI b0 b1 b2 b3 = word b0 b1 b2 b3 := by
  have := has_u8 h0; have := has_u8 h1; have := has_u8 h2; have := has_u8 h3
  have e0 : IntKind.u32.wrap b0 = b0 := by rw [wrap_u32]; omega
  have e1 : IntKind.u32.wrap (IntKind.u32.wrap b1 * 2 ^ 8) = b1 * 2 ^ 8 := by simp only [wrap_u32, Int.reducePow]; omega
  have e2 : IntKind.u32.wrap (IntKind.u32.wrap b2 * 2 ^ 16) = b2 * 2 ^ 16 := by simp only [wrap_u32, Int.reducePow]; omega
  have e3 : IntKind.u32.wrap (IntKind.u32.wrap b3 * 2 ^ 24) = b3 * 2 ^ 24 := by simp only [wrap_u32, Int.reducePow]; omega
  have z : bits .or .u32 0 (b3 * 2 ^ 24) = b3 * 2 ^ 24 := by
    rw [or_comm32, or_add32 (by omega) (by omega) (by omega) (by omega) (by omega)]; omega
  have r1 : bits .or .u32 (b3 * 2 ^ 24) (b2 * 2 ^ 16) = (b3 * 256 + b2) * 2 ^ 16 := by
    rw [or_add32 (by omega) (by omega) (by omega) (by omega) (by omega)]; omega
  have r2 : bits .or .u32 ((b3 * 256 + b2) * 2 ^ 16) (b1 * 2 ^ 8) = (b3 * 65536 + b2 * 256 + b1) * 2 ^ 8 := by
    rw [or_add32 (by omega) (by omega) (by omega) (by omega) (by omega)]; omega
  have r3 : bits .or .u32 ((b3 * 65536 + b2 * 256 + b1) * 2 ^ 8) b0 = word b0 b1 b2 b3 := by
    rw [or_add32 (by omega) (by omega) (by omega) (by omega) (by omega)]; unfold word; omega
  unfold wordI
  rw [e0, e1, e2, e3, z, r1, r2, r3]

end Go.Num

namespace Go.Num
open Go.Ab

def turnB (k : Int) : Bool := decide (k = 16) || decide (k = 12) || decide (k = 8) || decide (k = 7)
theorem turnB_iff {k : Int} (h : turnB k = true) : k = 16 ∨ k = 12 ∨ k = 8 ∨ k = 7 := by
  simpa [turnB, or_assoc] using h

def rotSum (f : FuncId) : Sum :=
  { f := f, ro := true
    S := fun args os => match args, os with
      | [.int .u32 x, .int .i64 k], [] => if turnB k then some (.int .u32 (rot32 k.toNat x), [], []) else none
      | _, _ => none
    C := fun args _ => match args with
      | [.int .u32 x, _] => [(hasB .u32 x, true)]
      | _ => [] }

theorem rotSum_sound {P : Program} {M : Mem} {f : FuncId} {fn : Func} (hf : P.funcs[f]? = some fn) (hn : (fn.name == "runtime.NumGoroutine") = false) (hb : fn.body.isSome = true)
    (h : ∀ x, IntKind.u32.has x → ACalls P M f [.int .u32 x, .int .i64 16] [] (.int .u32 (rot32 16 x)) [] [] ∧ ACalls P M f [.int .u32 x, .int .i64 12] [] (.int .u32 (rot32 12 x)) [] [] ∧
      ACalls P M f [.int .u32 x, .int .i64 8] [] (.int .u32 (rot32 8 x)) [] [] ∧ ACalls P M f [.int .u32 x, .int .i64 7] [] (.int .u32 (rot32 7 x)) [] []) : (rotSum f).SoundC P M := by
  refine sumC_sound hf hn hb fun args os v os' ns hs hp => ?_
  simp only [rotSum] at hs hp ⊢
  split at hs
  · rename_i x k
    split at hs
    · rename_i hk
      cases hs
      have hx : IntKind.u32.has x := hasB_iff.1 (hp (hasB .u32 x, true) (List.Mem.head _))
      obtain ⟨h1, h2, h3, h4⟩ := h x hx
      refine ⟨?_, fun _ => rfl⟩
      rcases turnB_iff hk with rfl | rfl | rfl | rfl
      · exact h1
      · exact h2
      · exact h3
      · exact h4
    · cases hs
  · cases hs

def qS (q : Int × Int × Int × Int) : Nat × Nat × Nat × Nat := (q.1.toNat, q.2.1.toNat, q.2.2.1.toNat, q.2.2.2.toNat)

/-- A quarter, in the memory that a pointer names. -/
def qSum (f : FuncId) : Sum :=
  { f := f, ro := false
    S := fun args os => match args, os with
      | [.pointer (some ⟨0, 0, some 16⟩), .int .i64 a, .int .i64 b, .int .i64 c, .int .i64 d], [⟨cells, g, e, true⟩] =>
        if isW cells && quadB a b c d then some (.tuple ⟨[]⟩, [⟨qC cells (a.toNat, b.toNat, c.toNat, d.toNat), g, e, true⟩], []) else none
      | _, _ => none }

/-- A quarter, of a value. -/
def qSumV (f : FuncId) : Sum :=
  { f := f, ro := true
    S := fun args os => match args, os with
      | [.agg ⟨cells⟩, .int .i64 a, .int .i64 b, .int .i64 c, .int .i64 d], [] =>
        if isW cells && quadB a b c d then some (.agg ⟨qC cells (a.toNat, b.toNat, c.toNat, d.toNat)⟩, [], []) else none
      | _, _ => none }

theorem isW_iff {cells : List Value} (h : isW cells = true) : cells = cellsI .u32 16 (wd cells) := by
  simp only [isW, Bool.and_eq_true] at h
  have := cellsI_wd h.2
  rwa [Nat.eq_of_beq_eq_true h.1] at this

theorem quadB_iff {a b c d : Int} (h : quadB a b c d = true) : (a = 0 ∧ b = 4 ∧ c = 8 ∧ d = 12) ∨ (a = 1 ∧ b = 5 ∧ c = 9 ∧ d = 13) ∨ (a = 2 ∧ b = 6 ∧ c = 10 ∧ d = 14) ∨ (a = 3 ∧ b = 7 ∧ c = 11 ∧ d = 15) ∨
    (a = 0 ∧ b = 5 ∧ c = 10 ∧ d = 15) ∨ (a = 1 ∧ b = 6 ∧ c = 11 ∧ d = 12) ∨ (a = 2 ∧ b = 7 ∧ c = 8 ∧ d = 13) ∨ (a = 3 ∧ b = 4 ∧ c = 9 ∧ d = 14) := by
  simpa [quadB, and_assoc, or_assoc] using h

theorem wd_congr {k : IntKind} {cells : List Value} (h : cells = cellsI k cells.length (wd cells)) : True := trivial

theorem qSum_sound {P : Program} {M : Mem} {f : FuncId} {fn : Func} (hf : P.funcs[f]? = some fn) (hn : (fn.name == "runtime.NumGoroutine") = false) (hb : fn.body.isSome = true)
    (h : ∀ (x : Nat → Int) (g : Bool) (e : Nat) (q : Nat × Nat × Nat × Nat), q ∈ quads → ACalls P M f [.pointer (some ⟨0, 0, some 16⟩), .int .i64 q.1, .int .i64 q.2.1, .int .i64 q.2.2.1, .int .i64 q.2.2.2] [⟨cellsI .u32 16 x, g, e, true⟩]
      (.tuple ⟨[]⟩) [⟨cellsI .u32 16 (qF x q.1 q.2.1 q.2.2.1 q.2.2.2), g, e, true⟩] []) : (qSum f).SoundC P M := by
  refine sumC_sound hf hn hb fun args os v os' ns hs hp => ?_
  simp only [qSum] at hs hp ⊢
  split at hs
  · rename_i a b c d cells g e
    split at hs
    · rename_i hk
      cases hs
      simp only [Bool.and_eq_true] at hk
      refine ⟨?_, fun h => by cases h⟩
      have hw := isW_iff hk.1
      have key : ∀ q : Nat × Nat × Nat × Nat, q ∈ quads → ACalls P M f [.pointer (some ⟨0, 0, some 16⟩), .int .i64 q.1, .int .i64 q.2.1, .int .i64 q.2.2.1, .int .i64 q.2.2.2] [⟨cells, g, e, true⟩] (.tuple ⟨[]⟩) [⟨qC cells q, g, e, true⟩] [] := fun q hq => by
        have := h (wd cells) g e q hq
        rw [← hw] at this
        exact this
      rcases quadB_iff hk.2 with ⟨rfl, rfl, rfl, rfl⟩ | ⟨rfl, rfl, rfl, rfl⟩ | ⟨rfl, rfl, rfl, rfl⟩ | ⟨rfl, rfl, rfl, rfl⟩ | ⟨rfl, rfl, rfl, rfl⟩ | ⟨rfl, rfl, rfl, rfl⟩ | ⟨rfl, rfl, rfl, rfl⟩ | ⟨rfl, rfl, rfl, rfl⟩
      · exact key (0, 4, 8, 12) (by decide)
      · exact key (1, 5, 9, 13) (by decide)
      · exact key (2, 6, 10, 14) (by decide)
      · exact key (3, 7, 11, 15) (by decide)
      · exact key (0, 5, 10, 15) (by decide)
      · exact key (1, 6, 11, 12) (by decide)
      · exact key (2, 7, 8, 13) (by decide)
      · exact key (3, 4, 9, 14) (by decide)
    · cases hs
  · cases hs

theorem qSumV_sound {P : Program} {M : Mem} {f : FuncId} {fn : Func} (hf : P.funcs[f]? = some fn) (hn : (fn.name == "runtime.NumGoroutine") = false) (hb : fn.body.isSome = true)
    (h : ∀ (x : Nat → Int) (q : Nat × Nat × Nat × Nat), q ∈ quads → ACalls P M f [.agg ⟨cellsI .u32 16 x⟩, .int .i64 q.1, .int .i64 q.2.1, .int .i64 q.2.2.1, .int .i64 q.2.2.2] []
      (.agg ⟨cellsI .u32 16 (qF x q.1 q.2.1 q.2.2.1 q.2.2.2)⟩) [] []) : (qSumV f).SoundC P M := by
  refine sumC_sound hf hn hb fun args os v os' ns hs hp => ?_
  simp only [qSumV] at hs hp ⊢
  split at hs
  · rename_i cells a b c d
    split at hs
    · rename_i hk
      cases hs
      simp only [Bool.and_eq_true] at hk
      refine ⟨?_, fun _ => rfl⟩
      have hw := isW_iff hk.1
      have key : ∀ q : Nat × Nat × Nat × Nat, q ∈ quads → ACalls P M f [.agg ⟨cells⟩, .int .i64 q.1, .int .i64 q.2.1, .int .i64 q.2.2.1, .int .i64 q.2.2.2] [] (.agg ⟨qC cells q⟩) [] [] := fun q hq => by
        have := h (wd cells) q hq
        rw [← hw] at this
        exact this
      rcases quadB_iff hk.2 with ⟨rfl, rfl, rfl, rfl⟩ | ⟨rfl, rfl, rfl, rfl⟩ | ⟨rfl, rfl, rfl, rfl⟩ | ⟨rfl, rfl, rfl, rfl⟩ | ⟨rfl, rfl, rfl, rfl⟩ | ⟨rfl, rfl, rfl, rfl⟩ | ⟨rfl, rfl, rfl, rfl⟩ | ⟨rfl, rfl, rfl, rfl⟩
      · exact key (0, 4, 8, 12) (by decide)
      · exact key (1, 5, 9, 13) (by decide)
      · exact key (2, 6, 10, 14) (by decide)
      · exact key (3, 7, 11, 15) (by decide)
      · exact key (0, 5, 10, 15) (by decide)
      · exact key (1, 6, 11, 12) (by decide)
      · exact key (2, 7, 8, 13) (by decide)
      · exact key (3, 4, 9, 14) (by decide)
    · cases hs
  · cases hs

end Go.Num

namespace Go.Num
open Go.Ab

/-- The words behind the rounds. -/
def rF (x : Nat → Int) (i : Nat) : Int := wd (roundsC (cellsI .u32 16 x)) i

theorem roundsC_eq {cells : List Value} (h : isW cells = true) : roundsC cells = cellsI .u32 16 (rF (wd cells)) := by
  have e : roundsC cells = cellsI .u32 16 (wd (roundsC cells)) := by
    have h2 : ∃ x, roundsC cells = cellsI .u32 16 x := ⟨_, rfl⟩
    obtain ⟨x, hx⟩ := h2
    rw [hx]
    exact cellsI_congr fun i hi => (wd_cellsI hi).symm
  rw [e]
  refine cellsI_congr fun i hi => ?_
  unfold rF
  rw [← isW_iff h]

def roundsSum (f : FuncId) : Sum :=
  { f := f, ro := false
    S := fun args os => match args, os with
      | [.pointer (some ⟨0, 0, some 16⟩)], [⟨cells, g, e, true⟩] =>
        if isW cells then some (.tuple ⟨[]⟩, [⟨cellsI .u32 16 (rF (wd cells)), g, e, true⟩], []) else none
      | _, _ => none }

def roundsSumV (f : FuncId) : Sum :=
  { f := f, ro := true
    S := fun args os => match args, os with
      | [.agg ⟨cells⟩], [] => if isW cells then some (.agg ⟨cellsI .u32 16 (rF (wd cells))⟩, [], []) else none
      | _, _ => none }

theorem roundsSum_sound {P : Program} {M : Mem} {f : FuncId} {fn : Func} (hf : P.funcs[f]? = some fn) (hn : (fn.name == "runtime.NumGoroutine") = false) (hb : fn.body.isSome = true)
    (h : ∀ (x : Nat → Int) (g : Bool) (e : Nat), ACalls P M f [.pointer (some ⟨0, 0, some 16⟩)] [⟨cellsI .u32 16 x, g, e, true⟩] (.tuple ⟨[]⟩) [⟨roundsC (cellsI .u32 16 x), g, e, true⟩] []) : (roundsSum f).SoundC P M := by
  refine sumC_sound hf hn hb fun args os v os' ns hs hp => ?_
  simp only [roundsSum] at hs hp ⊢
  split at hs
  · rename_i cells g e
    split at hs
    · rename_i hk
      cases hs
      refine ⟨?_, fun h => by cases h⟩
      have := h (wd cells) g e
      rw [← isW_iff hk, roundsC_eq hk] at this
      exact this
    · cases hs
  · cases hs

theorem roundsSumV_sound {P : Program} {M : Mem} {f : FuncId} {fn : Func} (hf : P.funcs[f]? = some fn) (hn : (fn.name == "runtime.NumGoroutine") = false) (hb : fn.body.isSome = true)
    (h : ∀ (x : Nat → Int), ACalls P M f [.agg ⟨cellsI .u32 16 x⟩] [] (.agg ⟨roundsC (cellsI .u32 16 x)⟩) [] []) : (roundsSumV f).SoundC P M := by
  refine sumC_sound hf hn hb fun args os v os' ns hs hp => ?_
  simp only [roundsSumV] at hs hp ⊢
  split at hs
  · rename_i cells
    split at hs
    · rename_i hk
      cases hs
      refine ⟨?_, fun _ => rfl⟩
      have := h (wd cells)
      rw [← isW_iff hk, roundsC_eq hk] at this
      exact this
    · cases hs
  · cases hs

/-- The words ahead of the rounds, the bytes of the key read by W. -/
def startW (W : Int → Int → Int → Int → Int) (k : Nat → Int) (a b c d : Int) : List Value :=
  [.int .u32 1634760805, .int .u32 857760878, .int .u32 2036477234, .int .u32 1797285236,
   .int .u32 (W (k 0) (k 1) (k 2) (k 3)), .int .u32 (W (k 4) (k 5) (k 6) (k 7)), .int .u32 (W (k 8) (k 9) (k 10) (k 11)), .int .u32 (W (k 12) (k 13) (k 14) (k 15)),
   .int .u32 (W (k 16) (k 17) (k 18) (k 19)), .int .u32 (W (k 20) (k 21) (k 22) (k 23)), .int .u32 (W (k 24) (k 25) (k 26) (k 27)), .int .u32 (W (k 28) (k 29) (k 30) (k 31)),
   .int .u32 a, .int .u32 b, .int .u32 c, .int .u32 d]

/-- Byte r of a word, as the program lays it. -/
def byteL (r : Nat) (v : Int) : Int := IntKind.wrap .u8 (v.fdiv (2 ^ (8 * r)))
/-- And as the specification does. -/
def byteS : Nat → Int → Int
  | 0, v => IntKind.wrap .u8 (v.tmod 256)
  | r + 1, v => byteS r (IntKind.wrap .u32 (v.tdiv 256))

theorem byteS_eq {v : Int} (h : IntKind.u32.has v) : byteS 0 v = byteL 0 v ∧ byteS 1 v = byteL 1 v ∧ byteS 2 v = byteL 2 v ∧ byteS 3 v = byteL 3 v := by
  obtain ⟨h1, h2⟩ := has_u32 h
  simp only [byteS, byteL, wrap_u8, wrap_u32]
  rw [Int.tdiv_eq_ediv_of_nonneg h1, Int.tmod_eq_emod_of_nonneg h1, Int.tdiv_eq_ediv_of_nonneg (a := v / 256 % 4294967296) (by omega), Int.tmod_eq_emod_of_nonneg (a := v / 256 % 4294967296) (by omega),
    Int.tdiv_eq_ediv_of_nonneg (a := v / 256 % 4294967296 / 256 % 4294967296) (by omega), Int.tmod_eq_emod_of_nonneg (a := v / 256 % 4294967296 / 256 % 4294967296) (by omega), Int.tmod_eq_emod_of_nonneg (a := v / 256 % 4294967296 / 256 % 4294967296 / 256 % 4294967296) (by omega)]
  simp only [Nat.reduceMul, Int.fdiv_eq_ediv_of_nonneg _ (show (0 : Int) ≤ 2 ^ 0 by decide), Int.fdiv_eq_ediv_of_nonneg _ (show (0 : Int) ≤ 2 ^ 8 by decide), Int.fdiv_eq_ediv_of_nonneg _ (show (0 : Int) ≤ 2 ^ 16 by decide), Int.fdiv_eq_ediv_of_nonneg _ (show (0 : Int) ≤ 2 ^ 24 by decide)]
  refine ⟨?_, ?_, ?_, ?_⟩ <;> omega

theorem byteL_range (r : Nat) (v : Int) : IntKind.u8.has (byteL r v) := by
  rw [byteL, wrap_u8]; show 0 ≤ _ ∧ _ ≤ (255 : Int); omega

/-- A block out of the words ahead of the rounds. -/
def blockW (B : Nat → Int → Int) (s : List Value) : List Value := (List.range 64).map fun j => .int .u8 (B (j % 4) (add32 (rF (wd s) (j / 4)) (wd s (j / 4))))
/-- A key out of the words ahead of the rounds. -/
def keyW (B : Nat → Int → Int) (s : List Value) : List Value := (List.range 32).map fun j => .int .u8 (B (j % 4) (rF (wd s) (if j < 16 then j / 4 else 8 + j / 4)))

theorem startW_congr {k : Nat → Int} (hk : ∀ i, IntKind.u8.has (k i)) {a b c d : Int} : startW wordI k a b c d = startW word k a b c d ∧ startW wordS k a b c d = startW word k a b c d := by
  constructor
  · simp only [startW, wordI_eq (hk _) (hk _) (hk _) (hk _)]
  · simp only [startW, wordS_eq (hk _) (hk _) (hk _) (hk _)]

theorem byteS_byteL {v : Int} (h : IntKind.u32.has v) {r : Nat} (hr : r < 4) : byteS r v = byteL r v := by
  obtain ⟨h0, h1, h2, h3⟩ := byteS_eq h
  rcases (by omega : r = 0 ∨ r = 1 ∨ r = 2 ∨ r = 3) with rfl | rfl | rfl | rfl <;> assumption

theorem blockW_eq (s : List Value) : blockW byteS s = blockW byteL s := by
  unfold blockW
  apply List.map_congr_left
  intro j _
  rw [byteS_byteL (add32_range _ _) (by omega)]

theorem upd_range {k : IntKind} {x : Nat → Int} {a : Nat} {v : Int} (hv : k.has v) {i : Nat} (h : i ≠ a → k.has (x i)) : k.has (upd x a v i) := by
  by_cases hi : i = a
  · subst hi; rw [upd_self]; exact hv
  · rw [upd_ne hi]; exact h hi

theorem rot32_range {k : Nat} (hk : Turns k) {x : Int} (h : IntKind.u32.has x) : IntKind.u32.has (rot32 k x) := by
  obtain ⟨h1, h2⟩ := has_u32 h
  show 0 ≤ _ ∧ _ ≤ (4294967295 : Int)
  unfold rot32
  rcases hk with rfl | rfl | rfl | rfl <;> simp only [Nat.reduceSub, Int.reducePow] <;> omega

theorem qF_range {x : Nat → Int} {a b c d : Nat} (h : ∀ i, i < 16 → IntKind.u32.has (x i)) : ∀ i, i < 16 → IntKind.u32.has (qF x a b c d i) := fun i hi => by
  unfold qF
  refine upd_range (rot32_range (by simp [Turns]) (xor32_range _ _)) fun _ => upd_range (add32_range _ _) fun _ => upd_range (rot32_range (by simp [Turns]) (xor32_range _ _)) fun _ => upd_range (add32_range _ _) fun _ =>
    upd_range (rot32_range (by simp [Turns]) (xor32_range _ _)) fun _ => upd_range (add32_range _ _) fun _ => upd_range (rot32_range (by simp [Turns]) (xor32_range _ _)) fun _ => upd_range (add32_range _ _) fun _ => h i hi

theorem fold_range : ∀ (l : List (Nat × Nat × Nat × Nat)) (cells : List Value), (∀ i, i < 16 → IntKind.u32.has (wd cells i)) → ∀ i, i < 16 → IntKind.u32.has (wd (l.foldl qC cells) i) := by
  intro l
  induction l with
  | nil => intro cells h; exact h
  | cons q l ih =>
    intro cells h
    refine ih (qC cells q) fun i hi => ?_
    unfold qC
    rw [wd_cellsI hi]
    exact qF_range h i hi

theorem rF_range {x : Nat → Int} (h : ∀ i, i < 16 → IntKind.u32.has (x i)) : ∀ i, i < 16 → IntKind.u32.has (rF x i) :=
  fold_range _ _ fun i hi => by rw [wd_cellsI hi]; exact h i hi

theorem word_range {b0 b1 b2 b3 : Int} (h0 : IntKind.u8.has b0) (h1 : IntKind.u8.has b1) (h2 : IntKind.u8.has b2) (h3 : IntKind.u8.has b3) : IntKind.u32.has (word b0 b1 b2 b3) := by
  have := has_u8 h0; have := has_u8 h1; have := has_u8 h2; have := has_u8 h3
  show 0 ≤ _ ∧ _ ≤ (4294967295 : Int)
  unfold word
  omega

theorem start_range {k : Nat → Int} (hk : ∀ i, IntKind.u8.has (k i)) {a b c d : Int} (ha : IntKind.u32.has a) (hb : IntKind.u32.has b) (hc : IntKind.u32.has c) (hd : IntKind.u32.has d) : ∀ i, i < 16 → IntKind.u32.has (wd (startW word k a b c d) i) := by
  have w : ∀ p q r s, IntKind.u32.has (word (k p) (k q) (k r) (k s)) := fun p q r s => word_range (hk _) (hk _) (hk _) (hk _)
  intro i hi
  rcases (by omega : i = 0 ∨ i = 1 ∨ i = 2 ∨ i = 3 ∨ i = 4 ∨ i = 5 ∨ i = 6 ∨ i = 7 ∨ i = 8 ∨ i = 9 ∨ i = 10 ∨ i = 11 ∨ i = 12 ∨ i = 13 ∨ i = 14 ∨ i = 15) with rfl | rfl | rfl | rfl | rfl | rfl | rfl | rfl | rfl | rfl | rfl | rfl | rfl | rfl | rfl | rfl
  · exact (show IntKind.u32.has 1634760805 from ⟨by decide, by decide⟩)
  · exact (show IntKind.u32.has 857760878 from ⟨by decide, by decide⟩)
  · exact (show IntKind.u32.has 2036477234 from ⟨by decide, by decide⟩)
  · exact (show IntKind.u32.has 1797285236 from ⟨by decide, by decide⟩)
  all_goals first | exact w _ _ _ _ | assumption

theorem keyW_eq {s : List Value} (h : ∀ i, i < 16 → IntKind.u32.has (wd s i)) : keyW byteS s = keyW byteL s := by
  unfold keyW
  apply List.map_congr_left
  intro j hj
  have hj := List.mem_range.1 hj
  rw [byteS_byteL (rF_range h _ (by split <;> omega)) (by omega)]

/-- The words ahead of a block. -/
def bStart (W : Int → Int → Int → Int → Int) (k : Nat → Int) (c : Int) (n : Nat → Int) : List Value := startW W k c (W (n 0) (n 1) (n 2) (n 3)) (W (n 4) (n 5) (n 6) (n 7)) (W (n 8) (n 9) (n 10) (n 11))
def hStart (W : Int → Int → Int → Int → Int) (k n : Nat → Int) : List Value := startW W k (W (n 0) (n 1) (n 2) (n 3)) (W (n 4) (n 5) (n 6) (n 7)) (W (n 8) (n 9) (n 10) (n 11)) (W (n 12) (n 13) (n 14) (n 15))

theorem bStart_eq {k n : Nat → Int} (hk : ∀ i, IntKind.u8.has (k i)) (hn : ∀ i, IntKind.u8.has (n i)) (c : Int) : bStart wordI k c n = bStart word k c n ∧ bStart wordS k c n = bStart word k c n := by
  unfold bStart
  simp only [startW_congr hk, wordI_eq (hn _) (hn _) (hn _) (hn _), wordS_eq (hn _) (hn _) (hn _) (hn _), and_self]
theorem hStart_eq {k n : Nat → Int} (hk : ∀ i, IntKind.u8.has (k i)) (hn : ∀ i, IntKind.u8.has (n i)) : hStart wordI k n = hStart word k n ∧ hStart wordS k n = hStart word k n := by
  unfold hStart
  simp only [startW_congr hk, wordI_eq (hn _) (hn _) (hn _) (hn _), wordS_eq (hn _) (hn _) (hn _) (hn _), and_self]

/-- A block. -/
def blockF (k : Nat → Int) (c : Int) (n : Nat → Int) : List Value := blockW byteL (bStart word k c n)
/-- A key. -/
def keyF (k n : Nat → Int) : List Value := keyW byteL (hStart word k n)

end Go.Num

namespace Go.Num
open Go.Ab

/-- Four bytes lie there. -/
def four (cells : List Value) (f s : Nat) : Bool := Nat.beq cells.length s && (isI .u8 (atC cells f) && (isI .u8 (atC cells (f + 1)) && (isI .u8 (atC cells (f + 2)) && isI .u8 (atC cells (f + 3)))))

def wordSum (f : FuncId) : Sum :=
  { f := f, ro := true
    S := fun args os => match args, os with
      | [.slice (some ⟨0, f, some s⟩) 4 c], [⟨cells, g, e, true⟩] =>
        if four cells f s then some (.int .u32 (wordI (wd cells f) (wd cells (f + 1)) (wd cells (f + 2)) (wd cells (f + 3))), [⟨cells, g, e, true⟩], []) else none
      | _, _ => none }

theorem wordSum_sound {P : Program} {M : Mem} {f : FuncId} {fn : Func} (hf : P.funcs[f]? = some fn) (hn : (fn.name == "runtime.NumGoroutine") = false) (hb : fn.body.isSome = true)
    (h : ∀ (f1 s c e : Nat) (cells : List Value) (g : Bool), Held [(ldB .u8 ⟨cells, g, e, true⟩ s (f1 + 3), true), (ldB .u8 ⟨cells, g, e, true⟩ s (f1 + 2), true), (ldB .u8 ⟨cells, g, e, true⟩ s (f1 + 1), true), (ldB .u8 ⟨cells, g, e, true⟩ s f1, true)] →
      ACalls P M f [.slice (some ⟨0, f1, some s⟩) 4 c] [⟨cells, g, e, true⟩] (.int .u32 (wordI (wd cells f1) (wd cells (f1 + 1)) (wd cells (f1 + 2)) (wd cells (f1 + 3)))) [⟨cells, g, e, true⟩] []) : (wordSum f).SoundC P M := by
  refine sumC_sound hf hn hb fun args os v os' ns hs hp => ?_
  simp only [wordSum] at hs hp ⊢
  split at hs
  · rename_i f1 s c cells g e
    split at hs
    · rename_i hk
      cases hs
      simp only [four, Bool.and_eq_true] at hk
      obtain ⟨h0, h1, h2, h3, h4⟩ := hk
      have hl := Nat.eq_of_beq_eq_true h0
      refine ⟨h f1 s c e cells g ?_, fun _ => rfl⟩
      exact held_cons (by simp [ldB, hl, h4]) (held_cons (by simp [ldB, hl, h3]) (held_cons (by simp [ldB, hl, h2]) (held_one (by simp [ldB, hl, h1]))))
    · cases hs
  · cases hs

/-- The same, with what it asks for as a condition. -/
def wordSumP (f : FuncId) : Sum :=
  { f := f, ro := true
    S := fun args os => match args, os with
      | [.slice (some ⟨0, f, some s⟩) 4 c], [⟨cells, g, e, true⟩] => some (.int .u32 (wordI (wd cells f) (wd cells (f + 1)) (wd cells (f + 2)) (wd cells (f + 3))), [⟨cells, g, e, true⟩], [])
      | _, _ => none
    C := fun args os => match args, os with
      | [.slice (some ⟨0, f, some s⟩) 4 c], [⟨cells, g, e, true⟩] => [(four cells f s, true)]
      | _, _ => [] }

theorem wordSumP_sound {P : Program} {M : Mem} {f : FuncId} (h : (wordSum f).SoundC P M) : (wordSumP f).SoundC P M := by
  intro args os v os' ns hs hp
  simp only [wordSumP] at hs hp
  split at hs
  · rename_i f1 s c cells g e
    cases hs
    have hk : four cells f1 s = true := hp (four cells f1 s, true) (List.Mem.head _)
    refine h [.slice (some ⟨0, f1, some s⟩) 4 c] [⟨cells, g, e, true⟩] _ _ _ ?_ held_nil
    simp only [wordSum, hk, if_true]
  · cases hs

/-- Eight bytes as a word, as the program reads them. -/
def wordI64 (x : Nat → Int) (f : Nat) : Int :=
  bits .or .u64 (IntKind.u64.wrap (wordI (x f) (x (f + 1)) (x (f + 2)) (x (f + 3)))) (IntKind.u64.wrap (IntKind.u64.wrap (wordI (x (f + 4)) (x (f + 5)) (x (f + 6)) (x (f + 7))) * 2 ^ 32))

theorem val_one (B : Int) (x : Nat → Int) : val B x 1 = x 0 := by simp [val]

theorem wordI64_eq {x : Nat → Int} {f : Nat} (h : ∀ i, i < 8 → IntKind.u8.has (x (f + i))) : wordI64 x f = val 256 (fun i => x (f + i)) 8 := by
  have h0 := h 0 (by omega); have h1 := h 1 (by omega); have h2 := h 2 (by omega); have h3 := h 3 (by omega)
  have h4 := h 4 (by omega); have h5 := h 5 (by omega); have h6 := h 6 (by omega); have h7 := h 7 (by omega)
  simp only [Nat.add_zero] at h0
  unfold wordI64
  rw [wordI_eq h0 h1 h2 h3, wordI_eq h4 h5 h6 h7]
  have a := has_u32 (word_range h0 h1 h2 h3)
  have b := has_u32 (word_range h4 h5 h6 h7)
  have e0 : IntKind.u64.wrap (word (x f) (x (f + 1)) (x (f + 2)) (x (f + 3))) = word (x f) (x (f + 1)) (x (f + 2)) (x (f + 3)) := by rw [wrap_u64]; omega
  have e1 : IntKind.u64.wrap (IntKind.u64.wrap (word (x (f + 4)) (x (f + 5)) (x (f + 6)) (x (f + 7))) * 2 ^ 32) = word (x (f + 4)) (x (f + 5)) (x (f + 6)) (x (f + 7)) * 2 ^ 32 := by simp only [wrap_u64, Int.reducePow]; omega
  rw [e0, e1, or_comm64, or_add64 (by omega) (by omega) (by omega) (by omega) (by omega)]
  simp only [val, word, Nat.add_zero]
  omega

/-- Eight bytes lie there, in range. -/
def eightR (cells : List Value) (f s : Nat) : Bool := four cells f s && (four cells (f + 4) s && ((List.range 8).all fun i => hasB .u8 (wd cells (f + i))))

def word8Sum (f : FuncId) : Sum :=
  { f := f, ro := true
    S := fun args os => match args, os with
      | [.slice (some ⟨0, f, some s⟩) 8 c], [⟨cells, g, e, true⟩] => if (!g) || Nat.beq e 1 then some (.int .u64 (val 256 (fun i => wd cells (f + i)) 8), [⟨cells, g, e, true⟩], []) else none
      | _, _ => none
    C := fun args os => match args, os with
      | [.slice (some ⟨0, f, some s⟩) 8 c], [⟨cells, g, e, true⟩] => [(eightR cells f s, true), (Nat.ble 8 c, true)]
      | _, _ => [] }

theorem word8Sum_sound {P : Program} {M : Mem} {f : FuncId} {fn : Func} (hf : P.funcs[f]? = some fn) (hn : (fn.name == "runtime.NumGoroutine") = false) (hb : fn.body.isSome = true)
    (h : ∀ (f1 s c e : Nat) (cells : List Value), 8 ≤ c → four cells f1 s = true → four cells (f1 + 4) s = true →
      ACalls P M f [.slice (some ⟨0, f1, some s⟩) 8 c] [⟨cells, false, e, true⟩] (.int .u64 (wordI64 (wd cells) f1)) [⟨cells, false, e, true⟩] [])
    (h2 : ∀ (f1 s c : Nat) (cells : List Value), 8 ≤ c → four cells f1 s = true → four cells (f1 + 4) s = true →
      ACalls P M f [.slice (some ⟨0, f1, some s⟩) 8 c] [⟨cells, true, 1, true⟩] (.int .u64 (wordI64 (wd cells) f1)) [⟨cells, true, 1, true⟩] []) : (word8Sum f).SoundC P M := by
  refine sumC_sound hf hn hb fun args os v os' ns hs hp => ?_
  simp only [word8Sum] at hs hp ⊢
  split at hs
  · rename_i f1 s c cells g e
    split at hs
    · rename_i hge
      cases hs
      have hk : eightR cells f1 s = true := hp (eightR cells f1 s, true) (List.Mem.head _)
      have hc : Nat.ble 8 c = true := hp (Nat.ble 8 c, true) (List.Mem.tail _ (List.Mem.head _))
      simp only [eightR, Bool.and_eq_true, List.all_eq_true, List.mem_range] at hk
      obtain ⟨k1, k2, k3⟩ := hk
      refine ⟨?_, fun _ => rfl⟩
      rw [← wordI64_eq fun i hi => hasB_iff.1 (k3 i hi)]
      cases g with
      | false => exact h f1 s c e cells (Nat.le_of_ble_eq_true hc) k1 k2
      | true =>
        simp only [Bool.not_true, Bool.false_or] at hge
        have := Nat.eq_of_beq_eq_true hge
        subst this
        exact h2 f1 s c cells (Nat.le_of_ble_eq_true hc) k1 k2
    · cases hs
  · cases hs

end Go.Num

namespace Go.Num
open Go.Ab

def T64 : Int := 18446744073709551616

def addB (x y c : Int) : Bool := hasB .u64 x && (hasB .u64 y && (decide (0 ≤ c) && decide (c ≤ 1)))
theorem addB_iff {x y c : Int} : addB x y c = true ↔ IntKind.u64.has x ∧ IntKind.u64.has y ∧ 0 ≤ c ∧ c ≤ 1 := by simp [addB, hasB_iff]

def add64Sum (f : FuncId) : Sum :=
  { f := f, ro := true
    S := fun args os => match args with
      | [.int .u64 x, .int .u64 y, .int .u64 c] => some (.tuple ⟨[.int .u64 ((x + y + c) % 18446744073709551616), .int .u64 ((x + y + c) / 18446744073709551616)]⟩, os, [])
      | _ => none
    C := fun args _ => match args with
      | [.int .u64 x, .int .u64 y, .int .u64 c] => [(addB x y c, true)]
      | _ => [] }

theorem add64Sum_sound {P : Program} {M : Mem} {f : FuncId} {fn : Func} (hf : P.funcs[f]? = some fn) (hname : (fn.name == "runtime.NumGoroutine") = false) (hb : fn.body.isNone = true) (hn : Extern.findNext fn = none) (he : Extern.find fn = some add64Entry) :
    (add64Sum f).SoundC P M := by
  intro args os v os' ns hs hp
  simp only [add64Sum] at hs hp
  split at hs
  · rename_i x y c
    cases hs
    have hc : addB x y c = true := hp (addB x y c, true) (List.Mem.head _)
    obtain ⟨h1, h2, h3, h4⟩ := addB_iff.1 hc
    refine ⟨.inr ⟨rfl, rfl, fun m w args' r hargs => ?_⟩, fun _ => rfl⟩
    have e : args' = #[.int .u64 x, .int .u64 y, .int .u64 c] := by
      have := hargs.eq rfl
      cases args'
      simp_all
    subst e
    refine ⟨_, ?_, .same rfl⟩
    show (callFunc f #[.int .u64 x, .int .u64 y, .int .u64 c]).run P w = _
    rw [run_callFunc_extern hf hname hb hn he, run_add64 x y c (has_u64 h1).1 (has_u64 h2).1 h3 h4]
    rfl
  · cases hs

def mul64Sum (f : FuncId) : Sum :=
  { f := f, ro := true
    S := fun args os => match args, os with
      | [.int .u64 x, .int .u64 y], [] => some (.tuple ⟨[.int .u64 (x * y / 18446744073709551616), .int .u64 (x * y % 18446744073709551616)]⟩, [], [])
      | _, _ => none
    C := fun args _ => match args with
      | [.int .u64 x, .int .u64 y] => [(hasB .u64 x && hasB .u64 y, true)]
      | _ => [] }

/-- The high half as the library's text computes it. -/
def mulHi (x y : Int) : Int :=
  let m := fun a => bits .and .u64 a 4294967295
  let w := IntKind.u64.wrap
  let s := fun a : Int => a.fdiv (2 ^ 32)
  let t := w (w (s x * m y) + s (w (m x * m y)))
  w (w (w (s x * s y) + s t) + s (w (m t + w (m x * s y))))

theorem mulHi_eq {x y : Int} (hx : IntKind.u64.has x) (hy : IntKind.u64.has y) : mulHi x y = x * y / 18446744073709551616 := by
  obtain ⟨x1, x2⟩ := has_u64 hx
  obtain ⟨y1, y2⟩ := has_u64 hy
  have ww : ∀ a, 0 ≤ IntKind.u64.wrap a ∧ IntKind.u64.wrap a < 18446744073709551616 := fun a => by rw [wrap_u64]; omega
  have m : ∀ a : Int, 0 ≤ a → a < 18446744073709551616 → bits .and .u64 a 4294967295 = a % 4294967296 := fun a h1 h2 => and_mask64 (k := 32) h1 h2 (by omega)
  have s : ∀ a : Int, a.fdiv (2 ^ 32) = a / 4294967296 := fun a => Int.fdiv_eq_ediv_of_nonneg _ (by decide)
  have key := mul64_arith x y x1 (by omega) y1 (by omega)
  simp only [mulHi, s, m x x1 (by omega), m y y1 (by omega), m _ (ww _).1 (ww _).2]
  simp only [wrap_u64]
  exact key

theorem mul64Sum_sound {P : Program} {M : Mem} {f : FuncId} {fn : Func} (hf : P.funcs[f]? = some fn) (hn : (fn.name == "runtime.NumGoroutine") = false) (hb : fn.body.isSome = true)
    (h : ∀ x y : Int, ACalls P M f [.int .u64 x, .int .u64 y] [] (.tuple ⟨[.int .u64 (mulHi x y), .int .u64 (IntKind.u64.wrap (x * y))]⟩) [] []) : (mul64Sum f).SoundC P M := by
  refine sumC_sound hf hn hb fun args os v os' ns hs hp => ?_
  simp only [mul64Sum] at hs hp ⊢
  split at hs
  · rename_i x y
    cases hs
    have hc : (hasB .u64 x && hasB .u64 y) = true := hp (hasB .u64 x && hasB .u64 y, true) (List.Mem.head _)
    simp only [Bool.and_eq_true, hasB_iff] at hc
    have := h x y
    rw [mulHi_eq hc.1 hc.2, wrap_u64] at this
    exact ⟨this, fun _ => rfl⟩
  · cases hs

end Go.Num

namespace Go.Num
open Go.Ab

def B51 : Int := 2251799813685248
def pF : Int := 57896044618658097711785492504343953926634992332820282019728792003956564819949
/-- The bound of a carried limb. -/
def RB : Int := 2251799813816320

/-- Carried, what leaves the top coming back nineteenfold. -/
def carE (x : Nat → Int) (i : Nat) : Int := dig B51 x i + (bif Nat.beq i 0 then 19 * car B51 x 5 else 0)

theorem val5 (B : Int) (x : Nat → Int) : val B x 5 = x 0 + x 1 * B + x 2 * B ^ 2 + x 3 * B ^ 3 + x 4 * B ^ 4 := by
  simp only [val]; grind

theorem carE_val (x : Nat → Int) : val B51 (carE x) 5 = val B51 x 5 - pF * car B51 x 5 := by
  have h := dig_val (B := B51) (t := x) (n := 5)
  have e : val B51 (carE x) 5 = val B51 (dig B51 x) 5 + 19 * car B51 x 5 := by
    rw [val5, val5]
    simp only [carE, Nat.beq, cond_true, cond_false, Int.add_zero]
    omega
  have hB : B51 ^ 5 = 57896044618658097711785492504343953926634992332820282019728792003956564819968 := by decide
  rw [hB] at h
  rw [e]
  unfold pF
  omega

def Bd (K : Int) (x : Nat → Int) : Prop := ∀ i, i < 5 → 0 ≤ x i ∧ x i ≤ K

theorem carE_bd {x : Nat → Int} {K : Int} (hK : 0 ≤ K) (hK2 : K ≤ 9223372036854775807) (h : Bd K x) : Bd (2251799813685247 + 19 * (K / 2251799813685248 + 1)) (carE x) ∧ 0 ≤ car B51 x 5 ∧ car B51 x 5 ≤ K / 2251799813685248 + 1 := by
  have hc := car_range (B := B51) (t := x) (T := K) (C := K / 2251799813685248 + 1) (n := 5) (by decide) (by omega) (by unfold B51; omega) (fun k hk => h k hk) (Nat.le_refl 5)
  refine ⟨fun i hi => ?_, hc⟩
  have hd := dig_range (B := B51) (by decide) x i
  have hB : B51 = 2251799813685248 := rfl
  unfold carE
  cases Nat.beq i 0 with
  | true => simp only [cond_true]; omega
  | false => simp only [cond_false]; omega

theorem carE_rb {x : Nat → Int} (h : Bd 9223372036854775807 x) : Bd RB (carE x) := fun i hi => by
  have := (carE_bd (by decide) (by decide) h).1 i hi
  unfold RB
  omega

theorem bd_mono {K L : Int} (hKL : K ≤ L) {x : Nat → Int} (h : Bd K x) : Bd L x := fun i hi => by have := h i hi; omega

/-- As the program carries. -/
def carryI (x : Nat → Int) : List Value :=
  let w := IntKind.u64.wrap
  let s := fun a : Int => a.fdiv (2 ^ 51)
  let m := fun a : Int => bits .and .u64 a 2251799813685247
  let b := w (x 1 + s (x 0))
  let c := w (x 2 + s b)
  let d := w (x 3 + s c)
  let e := w (x 4 + s d)
  [.int .u64 (w (m (x 0) + w (19 * s e))), .int .u64 (m b), .int .u64 (m c), .int .u64 (m d), .int .u64 (m e)]

theorem sh51 (a : Int) : a.fdiv (2 ^ 51) = a / 2251799813685248 := Int.fdiv_eq_ediv_of_nonneg _ (by decide)
theorem mask51 {a : Int} (h : 0 ≤ a) (h2 : a < 18446744073709551616) : bits .and .u64 a 2251799813685247 = a % 2251799813685248 := and_mask64 (k := 51) h h2 (by omega)
theorem wrap64_id {a : Int} (h : 0 ≤ a) (h2 : a < 18446744073709551616) : IntKind.u64.wrap a = a := by rw [wrap_u64]; omega

theorem carryI_eq {x : Nat → Int} (h : Bd 9223372036854775807 x) : carryI x = cellsI .u64 5 (carE x) := by
  have h0 := h 0 (by omega); have h1 := h 1 (by omega); have h2 := h 2 (by omega); have h3 := h 3 (by omega); have h4 := h 4 (by omega)
  have c1 : car B51 x 1 = x 0 / 2251799813685248 := by simp [car, B51]
  have c2 : car B51 x 2 = (x 1 + x 0 / 2251799813685248) / 2251799813685248 := by rw [car, c1]; unfold B51; rw [Int.add_comm]
  have c3 : car B51 x 3 = (x 2 + car B51 x 2) / 2251799813685248 := by rw [car]; unfold B51; rw [Int.add_comm]
  have c4 : car B51 x 4 = (x 3 + car B51 x 3) / 2251799813685248 := by rw [car]; unfold B51; rw [Int.add_comm]
  have c5 : car B51 x 5 = (x 4 + car B51 x 4) / 2251799813685248 := by rw [car]; unfold B51; rw [Int.add_comm]
  have b1 : IntKind.u64.wrap (x 1 + (x 0).fdiv (2 ^ 51)) = x 1 + x 0 / 2251799813685248 := by rw [sh51, wrap64_id (by omega) (by omega)]
  have b2 : IntKind.u64.wrap (x 2 + (x 1 + x 0 / 2251799813685248).fdiv (2 ^ 51)) = x 2 + car B51 x 2 := by rw [sh51, ← c2, wrap64_id (by omega) (by omega)]
  have b3 : IntKind.u64.wrap (x 3 + (x 2 + car B51 x 2).fdiv (2 ^ 51)) = x 3 + car B51 x 3 := by rw [sh51, ← c3, wrap64_id (by omega) (by omega)]
  have b4 : IntKind.u64.wrap (x 4 + (x 3 + car B51 x 3).fdiv (2 ^ 51)) = x 4 + car B51 x 4 := by rw [sh51, ← c4, wrap64_id (by omega) (by omega)]
  simp only [carryI, b1, b2, b3, b4]
  rw [sh51, ← c5, mask51 h0.1 (by omega), mask51 (by omega) (by omega), mask51 (by omega) (by omega), mask51 (by omega) (by omega), mask51 (by omega) (by omega), wrap64_id (a := 19 * car B51 x 5) (by omega) (by omega), wrap64_id (by omega) (by omega)]
  have e : cellsI .u64 5 (carE x) = [.int .u64 (carE x 0), .int .u64 (carE x 1), .int .u64 (carE x 2), .int .u64 (carE x 3), .int .u64 (carE x 4)] := rfl
  rw [e]
  simp only [carE, dig, c1, Nat.beq, cond_true, cond_false, Int.add_zero]
  rw [show car B51 x 0 = 0 from rfl]
  simp only [Int.zero_add, Int.add_comm (car B51 x _), Int.add_comm (x 0 / 2251799813685248)]
  rfl

/-- 128 bits in two words, and a product added. -/
def w2 (V : Int) : List Value := [.int .u64 (V / 18446744073709551616), .int .u64 (V % 18446744073709551616)]

def plusB (h l a b : Int) : Bool := hasB .u64 h && (hasB .u64 l && (hasB .u64 a && (hasB .u64 b && decide (h * 18446744073709551616 + l + a * b < 340282366920938463463374607431768211456))))

def plusSum (f : FuncId) : Sum :=
  { f := f, ro := true
    S := fun args os => match args, os with
      | [.agg ⟨[.int .u64 h, .int .u64 l]⟩, .int .u64 a, .int .u64 b], [] => some (.agg ⟨w2 (h * 18446744073709551616 + l + a * b)⟩, [], [])
      | _, _ => none
    C := fun args _ => match args with
      | [.agg ⟨[.int .u64 h, .int .u64 l]⟩, .int .u64 a, .int .u64 b] => [(plusB h l a b, true)]
      | _ => [] }

theorem mul_range64 {a b : Int} (ha : IntKind.u64.has a) (hb : IntKind.u64.has b) : 0 ≤ a * b ∧ a * b ≤ 340282366920938463426481119284349108225 := by
  obtain ⟨a1, a2⟩ := has_u64 ha
  obtain ⟨b1, b2⟩ := has_u64 hb
  refine ⟨Int.mul_nonneg a1 b1, ?_⟩
  have := Int.mul_le_mul a2 b2 b1 (by omega : (0 : Int) ≤ 18446744073709551615)
  simpa using this

theorem plusSum_sound {P : Program} {M : Mem} {f : FuncId} {fn : Func} (hf : P.funcs[f]? = some fn) (hn : (fn.name == "runtime.NumGoroutine") = false) (hb : fn.body.isSome = true)
    (h : ∀ h l a b : Int, Held [(hasB .u64 a && hasB .u64 b, true), (addB l (a * b % 18446744073709551616) 0, true), (addB h (a * b / 18446744073709551616) ((l + a * b % 18446744073709551616 + 0) / 18446744073709551616), true)] →
      ACalls P M f [.agg ⟨[.int .u64 h, .int .u64 l]⟩, .int .u64 a, .int .u64 b] []
      (.agg ⟨[.int .u64 ((h + a * b / 18446744073709551616 + (l + a * b % 18446744073709551616 + 0) / 18446744073709551616) % 18446744073709551616), .int .u64 ((l + a * b % 18446744073709551616 + 0) % 18446744073709551616)]⟩) [] []) : (plusSum f).SoundC P M := by
  refine sumC_sound hf hn hb fun args os v os' ns hs hp => ?_
  simp only [plusSum] at hs hp ⊢
  split at hs
  · rename_i hi lo a b
    cases hs
    have hc : plusB hi lo a b = true := hp (plusB hi lo a b, true) (List.Mem.head _)
    simp only [plusB, Bool.and_eq_true, hasB_iff, decide_eq_true_eq] at hc
    obtain ⟨h1, h2, h3, h4, h5⟩ := hc
    have hm := mul_range64 h3 h4
    have i1 := has_u64 h1
    have i2 := has_u64 h2
    have key := h hi lo a b
    generalize a * b = P at *
    have hr : ∀ n : Int, 0 ≤ n → n ≤ 18446744073709551615 → IntKind.u64.has n := fun n p q => ⟨p, q⟩
    have := key (held_cons (by simp [hasB_iff, h3, h4]) (held_cons (addB_iff.2 ⟨h2, hr _ (by omega) (by omega), by omega, by omega⟩) (held_one (addB_iff.2 ⟨h1, hr _ (by omega) (by omega), by omega, by omega⟩))))
    refine ⟨?_, fun _ => rfl⟩
    have e : w2 (hi * 18446744073709551616 + lo + P) = [.int .u64 ((hi + P / 18446744073709551616 + (lo + P % 18446744073709551616 + 0) / 18446744073709551616) % 18446744073709551616), .int .u64 ((lo + P % 18446744073709551616 + 0) % 18446744073709551616)] := by
      simp only [w2, List.cons.injEq, Value.int.injEq, true_and, and_true]
      omega
    rw [e]
    exact this
  · cases hs

end Go.Num

namespace Go.Num
open Go.Ab

def wx (x : Nat → Int) (i k : Nat) : Int := bif Nat.blt (i + k) 5 then x i else IntKind.u64.wrap (x i * 19)
def tx (x y : Nat → Int) (i j : Nat) : Int := bif Nat.ble i j then x i * y (j - i) else IntKind.u64.wrap (x i * 19) * y (5 + j - i)
/-- The sums of products after i rows. -/
def VV (x y : Nat → Int) : Nat → Nat → Int
  | 0, _ => 0
  | i + 1, j => VV x y i j / 18446744073709551616 * 18446744073709551616 + VV x y i j % 18446744073709551616 + tx x y i j

def jj (i k : Nat) : Nat := bif Nat.blt (i + k) 5 then i + k else i + k - 5

def plusPins (x y : Nat → Int) : Pins := (List.range 5).flatMap fun i => (List.range 5).map fun k =>
  (plusB (VV x y i (jj i k) / 18446744073709551616) (VV x y i (jj i k) % 18446744073709551616) (wx x i k) (y k), true)

/-- Low and high word on the way. -/
def ch (R : Nat → Int) : Nat → Int × Int
  | 0 => (0, 0)
  | i + 1 => 
    let lo := (R i % 18446744073709551616 + (ch R i).2 + 0) % 18446744073709551616
    let hi := (R i / 18446744073709551616 + (ch R i).1 + (R i % 18446744073709551616 + (ch R i).2 + 0) / 18446744073709551616) % 18446744073709551616
    (hi.fdiv (2 ^ 51), bits .or .u64 (lo.fdiv (2 ^ 51)) (IntKind.u64.wrap (hi * 2 ^ 13)))

def lowI (R : Nat → Int) (i : Nat) : Int := (R i % 18446744073709551616 + (ch R i).2 + 0) % 18446744073709551616
def outI (R : Nat → Int) (i : Nat) : Int := bits .and .u64 (lowI R i) 2251799813685247

def lowZ (R : Nat → Int) : Int := (outI R 0 + (ch R 5).2 * 19 % 18446744073709551616 + 0) % 18446744073709551616
def highZ (R : Nat → Int) : Int := IntKind.u64.wrap ((ch R 5).2 * 19 / 18446744073709551616 + IntKind.u64.wrap ((outI R 0 + (ch R 5).2 * 19 % 18446744073709551616 + 0) / 18446744073709551616 + IntKind.u64.wrap (19 * (ch R 5).1)))
def mulL (R : Nat → Int) : List Value :=
  [.int .u64 (bits .and .u64 (lowZ R) 2251799813685247), .int .u64 (IntKind.u64.wrap (outI R 1 + bits .or .u64 ((lowZ R).fdiv (2 ^ 51)) (IntKind.u64.wrap (highZ R * 2 ^ 13)))), .int .u64 (outI R 2), .int .u64 (outI R 3), .int .u64 (outI R 4)]

def addPins (R : Nat → Int) : Pins := (List.range 5).flatMap fun i =>
  [(addB (R i % 18446744073709551616) (ch R i).2 0, true), (addB (R i / 18446744073709551616) (ch R i).1 ((R i % 18446744073709551616 + (ch R i).2 + 0) / 18446744073709551616), true)]

/-- Are all cells numbers from 0 to K? -/
def leB (K : Int) (l : List Value) : Bool := l.all fun v => decide (0 ≤ vint v) && decide (vint v ≤ K)

def mulPins (x y : Nat → Int) : Pins := plusPins x y ++ (addPins (VV x y 5) ++ [(hasB .u64 (ch (VV x y 5) 5).2 && hasB .u64 19, true), (addB (outI (VV x y 5) 0) ((ch (VV x y 5) 5).2 * 19 % 18446744073709551616) 0, true), (leB 9223372036854775807 (mulL (VV x y 5)), true)])

/-- What the sums of products come to. -/
def Rx (x y : Nat → Int) (j : Nat) : Int := bif Nat.beq j 0 then x 0 * y 0 + 19 * (x 1 * y 4 + x 2 * y 3 + x 3 * y 2 + x 4 * y 1) else
  bif Nat.beq j 1 then x 0 * y 1 + x 1 * y 0 + 19 * (x 2 * y 4 + x 3 * y 3 + x 4 * y 2) else
  bif Nat.beq j 2 then x 0 * y 2 + x 1 * y 1 + x 2 * y 0 + 19 * (x 3 * y 4 + x 4 * y 3) else
  bif Nat.beq j 3 then x 0 * y 3 + x 1 * y 2 + x 2 * y 1 + x 3 * y 0 + 19 * (x 4 * y 4) else
  x 0 * y 4 + x 1 * y 3 + x 2 * y 2 + x 3 * y 1 + x 4 * y 0

theorem VV_succ (x y : Nat → Int) (i j : Nat) : VV x y (i + 1) j = VV x y i j + tx x y i j := by
  rw [VV]; omega

theorem prod_bd {x y : Nat → Int} (hx : Bd RB x) (hy : Bd RB y) {i k : Nat} (hi : i < 5) (hk : k < 5) : 0 ≤ x i * y k ∧ x i * y k ≤ 5070602400912917605986812821504 * 2 := by
  have a := hx i hi
  have b := hy k hk
  refine ⟨Int.mul_nonneg a.1 b.1, ?_⟩
  have := Int.mul_le_mul a.2 b.2 b.1 (show 0 ≤ RB by decide)
  have e : RB * RB ≤ 5070602400912917605986812821504 * 2 := by decide
  omega

theorem wrap19 {x : Nat → Int} (hx : Bd RB x) {i : Nat} (hi : i < 5) : IntKind.u64.wrap (x i * 19) = x i * 19 := by
  have := hx i hi
  unfold RB at this
  rw [wrap64_id (by omega) (by omega)]

theorem tx_bd {x y : Nat → Int} (hx : Bd RB x) (hy : Bd RB y) {i j : Nat} (hi : i < 5) (hj : j < 5) : 0 ≤ tx x y i j ∧ tx x y i j ≤ 192682891234690869027498887217152 ∧ tx x y i j = (if i ≤ j then x i * y (j - i) else 19 * (x i * y (5 + j - i))) := by
  unfold tx
  by_cases h : i ≤ j
  · have hb : Nat.ble i j = true := Nat.ble_eq_true_of_le h
    have := prod_bd hx hy (i := i) (k := j - i) hi (by omega)
    rw [hb, if_pos h]
    simp only [cond_true]
    exact ⟨this.1, by omega, trivial⟩
  · have hb : Nat.ble i j = false := by rw [Bool.eq_false_iff]; exact fun e => h (Nat.le_of_ble_eq_true e)
    have := prod_bd hx hy (i := i) (k := 5 + j - i) hi (by omega)
    rw [hb, if_neg h, wrap19 hx hi]
    simp only [cond_false]
    have e : x i * 19 * y (5 + j - i) = 19 * (x i * y (5 + j - i)) := by grind
    rw [e]
    exact ⟨by omega, by omega, rfl⟩

theorem VV_bd {x y : Nat → Int} (hx : Bd RB x) (hy : Bd RB y) {j : Nat} (hj : j < 5) : ∀ {i : Nat}, i ≤ 5 → 0 ≤ VV x y i j ∧ VV x y i j ≤ i * 192682891234690869027498887217152 := by
  intro i
  induction i with
  | zero => intro _; simp [VV]
  | succ i ih =>
    intro hi
    have h1 := ih (by omega)
    have h2 := tx_bd hx hy (i := i) (j := j) (by omega) hj
    rw [VV_succ]
    generalize VV x y i j = a at *
    generalize tx x y i j = b at *
    omega

theorem VV_eq {x y : Nat → Int} (hx : Bd RB x) (hy : Bd RB y) {j : Nat} (hj : j < 5) : VV x y 5 j = Rx x y j := by
  have t := fun i (hi : i < 5) => (tx_bd hx hy (i := i) (j := j) hi hj).2.2
  have e0 : VV x y 0 j = 0 := rfl
  rw [VV_succ, VV_succ, VV_succ, VV_succ, VV_succ, t 0 (by omega), t 1 (by omega), t 2 (by omega), t 3 (by omega), t 4 (by omega), e0]
  rcases (by omega : j = 0 ∨ j = 1 ∨ j = 2 ∨ j = 3 ∨ j = 4) with rfl | rfl | rfl | rfl | rfl <;> simp [Rx, Nat.beq] <;> omega

theorem Rx_val (x y : Nat → Int) : ∃ q, val B51 (Rx x y) 5 = val B51 x 5 * val B51 y 5 - pF * q := by
  refine ⟨(x 1 * y 4 + x 2 * y 3 + x 3 * y 2 + x 4 * y 1) + (x 2 * y 4 + x 3 * y 3 + x 4 * y 2) * B51 + (x 3 * y 4 + x 4 * y 3) * B51 ^ 2 + x 4 * y 4 * B51 ^ 3, ?_⟩
  have hp : pF = B51 ^ 5 - 19 := by decide
  rw [hp, val5, val5, val5]
  simp only [Rx, Nat.beq, cond_true, cond_false]
  generalize B51 = B
  grind

theorem or_sh {lo hi : Int} (h1 : 0 ≤ lo) (h2 : lo < 18446744073709551616) (h3 : 0 ≤ hi) (h4 : hi < 18446744073709551616) :
    bits .or .u64 (lo.fdiv (2 ^ 51)) (IntKind.u64.wrap (hi * 2 ^ 13)) = (hi * 18446744073709551616 + lo) / 2251799813685248 % 18446744073709551616 := by
  have e : IntKind.u64.wrap (hi * 2 ^ 13) = (hi % 2251799813685248) * 2 ^ 13 := by rw [wrap_u64]; omega
  rw [sh51, or_comm64, e, or_add64 (by omega) (by omega) (by omega) (by omega) (by omega)]
  omega

/-- Carrying through words of 64 bits is carrying. -/
theorem ch_eq {R : Nat → Int} (h : ∀ i, i < 5 → 0 ≤ R i ∧ R i ≤ 1000000000000000000000000000000000) : ∀ {i : Nat}, i ≤ 5 → 0 ≤ car B51 R i ∧ car B51 R i ≤ 1000000000000000000 ∧ ch R i = (car B51 R i / 18446744073709551616, car B51 R i % 18446744073709551616) := by
  intro i
  induction i with
  | zero => intro _; simp [ch, car]
  | succ i ih =>
    intro hi
    obtain ⟨h1, h2, h3⟩ := ih (by omega)
    have hr := h i (by omega)
    have e : car B51 R (i + 1) = (car B51 R i + R i) / 2251799813685248 := rfl
    simp only [ch, h3, e]
    generalize car B51 R i = c at *
    generalize R i = r at *
    refine ⟨by omega, by omega, ?_⟩
    have elo : (r % 18446744073709551616 + c % 18446744073709551616 + 0) % 18446744073709551616 = (c + r) % 18446744073709551616 := by omega
    have ehi : (r / 18446744073709551616 + c / 18446744073709551616 + (r % 18446744073709551616 + c % 18446744073709551616 + 0) / 18446744073709551616) % 18446744073709551616 = (c + r) / 18446744073709551616 := by omega
    rw [elo, ehi, or_sh (by omega) (by omega) (by omega) (by omega), sh51]
    have : (c + r) / 18446744073709551616 * 18446744073709551616 + (c + r) % 18446744073709551616 = c + r := by omega
    rw [this]
    congr 1
    omega

theorem outI_eq {R : Nat → Int} (h : ∀ i, i < 5 → 0 ≤ R i ∧ R i ≤ 1000000000000000000000000000000000) {i : Nat} (hi : i < 5) : outI R i = dig B51 R i := by
  obtain ⟨h1, h2, h3⟩ := ch_eq h (i := i) (by omega)
  have hr := h i hi
  unfold outI lowI dig
  rw [h3]
  simp only
  rw [mask51 (by omega) (by omega)]
  unfold B51
  omega

/-- The limbs ahead of the last carrying. -/
def mulR (R : Nat → Int) (i : Nat) : Int :=
  bif Nat.beq i 0 then (dig B51 R 0 + 19 * car B51 R 5) % 2251799813685248 else bif Nat.beq i 1 then dig B51 R 1 + (dig B51 R 0 + 19 * car B51 R 5) / 2251799813685248 else dig B51 R i

theorem mulL_eq {R : Nat → Int} (h : ∀ i, i < 5 → 0 ≤ R i ∧ R i ≤ 1000000000000000000000000000000000) : mulL R = cellsI .u64 5 (mulR R) := by
  obtain ⟨h1, h2, h3⟩ := ch_eq h (i := 5) (by omega)
  have d := fun i => dig_range (B := B51) (by decide) R i
  have d0 := d 0
  have d1 := d 1
  have hB : B51 = 2251799813685248 := rfl
  have e : cellsI .u64 5 (mulR R) = [.int .u64 (mulR R 0), .int .u64 (mulR R 1), .int .u64 (mulR R 2), .int .u64 (mulR R 3), .int .u64 (mulR R 4)] := rfl
  rw [e]
  have z : lowZ R = (dig B51 R 0 + 19 * car B51 R 5) % 18446744073709551616 := by
    unfold lowZ
    rw [h3, outI_eq h (by omega)]
    simp only
    generalize car B51 R 5 = c at *
    generalize dig B51 R 0 = g at *
    omega
  have zh : highZ R = (dig B51 R 0 + 19 * car B51 R 5) / 18446744073709551616 := by
    unfold highZ
    rw [h3, outI_eq h (by omega)]
    simp only [wrap_u64]
    generalize car B51 R 5 = c at *
    generalize dig B51 R 0 = g at *
    omega
  unfold mulL
  rw [outI_eq h (by omega), outI_eq h (by omega), outI_eq h (by omega), outI_eq h (by omega), or_sh (by rw [z]; omega) (by rw [z]; omega) (by rw [zh]; omega) (by rw [zh]; omega), z, zh, mask51 (by omega) (by omega)]
  simp only [mulR, Nat.beq, cond_true, cond_false, wrap_u64]
  generalize car B51 R 5 = c at *
  generalize dig B51 R 0 = g at *
  generalize dig B51 R 1 = g1 at *
  have q1 : (g + 19 * c) % 18446744073709551616 % 2251799813685248 = (g + 19 * c) % 2251799813685248 := by omega
  have q2 : (g1 + ((g + 19 * c) / 18446744073709551616 * 18446744073709551616 + (g + 19 * c) % 18446744073709551616) / 2251799813685248 % 18446744073709551616) % 18446744073709551616 = g1 + (g + 19 * c) / 2251799813685248 := by omega
  rw [q1, q2]

theorem mulR_bd {R : Nat → Int} (h : ∀ i, i < 5 → 0 ≤ R i ∧ R i ≤ 1000000000000000000000000000000000) : Bd 9223372036854775807 (mulR R) := by
  obtain ⟨h1, h2, h3⟩ := ch_eq h (i := 5) (by omega)
  have hB : B51 = 2251799813685248 := rfl
  intro i hi
  have d0 := dig_range (B := B51) (by decide) R 0
  have d1 := dig_range (B := B51) (by decide) R 1
  have di := dig_range (B := B51) (by decide) R i
  unfold mulR
  cases Nat.beq i 0 <;> cases Nat.beq i 1 <;> simp only [cond_true, cond_false] <;> omega

theorem mulR_val (R : Nat → Int) : val B51 (mulR R) 5 = val B51 R 5 - pF * car B51 R 5 := by
  have h := dig_val (B := B51) (t := R) (n := 5)
  have hB : B51 ^ 5 = pF + 19 := by decide
  rw [hB] at h
  rw [val5] at h ⊢
  simp only [mulR, Nat.beq, cond_true, cond_false]
  have e : (dig B51 R 0 + 19 * car B51 R 5) % 2251799813685248 + ((dig B51 R 0 + 19 * car B51 R 5) / 2251799813685248) * 2251799813685248 = dig B51 R 0 + 19 * car B51 R 5 := by omega
  have eB : B51 = 2251799813685248 := rfl
  generalize (dig B51 R 0 + 19 * car B51 R 5) % 2251799813685248 = u at *
  generalize (dig B51 R 0 + 19 * car B51 R 5) / 2251799813685248 = v at *
  rw [← eB] at e
  grind

/-- The product. -/
def mulE (x y : Nat → Int) : Nat → Int := carE (mulR (Rx x y))

theorem Rx_bd {x y : Nat → Int} (hx : Bd RB x) (hy : Bd RB y) : ∀ i, i < 5 → 0 ≤ Rx x y i ∧ Rx x y i ≤ 1000000000000000000000000000000000 := fun i hi => by
  have := VV_bd hx hy hi (i := 5) (Nat.le_refl 5)
  rw [VV_eq hx hy hi] at this
  omega

theorem car_congr {B : Int} {s t : Nat → Int} : ∀ {n : Nat}, (∀ i, i < n → s i = t i) → car B s n = car B t n := by
  intro n
  induction n with
  | zero => intro _; rfl
  | succ n ih => intro h; simp only [car]; rw [ih fun i hi => h i (by omega), h n (by omega)]

theorem dig_congr {B : Int} {s t : Nat → Int} {n : Nat} (h : ∀ i, i ≤ n → s i = t i) : dig B s n = dig B t n := by
  unfold dig; rw [car_congr fun i hi => h i (by omega), h n (by omega)]

theorem mulR_congr {R S : Nat → Int} (h : ∀ i, i < 5 → R i = S i) : ∀ i, i < 5 → mulR R i = mulR S i := fun i hi => by
  unfold mulR
  rw [car_congr h, dig_congr (s := R) (t := S) (n := 0) fun k hk => h k (by omega), dig_congr (s := R) (t := S) (n := 1) fun k hk => h k (by omega), dig_congr (s := R) (t := S) (n := i) fun k hk => h k (by omega)]

theorem carE_congr {x y : Nat → Int} (h : ∀ i, i < 5 → x i = y i) : ∀ i, i < 5 → carE x i = carE y i := fun i hi => by
  unfold carE
  rw [car_congr h, dig_congr fun k hk => h k (by omega)]

theorem mulE_bd {x y : Nat → Int} (hx : Bd RB x) (hy : Bd RB y) : Bd RB (mulE x y) := carE_rb (mulR_bd (Rx_bd hx hy))

theorem mulE_val (x y : Nat → Int) : ∃ q, val B51 (mulE x y) 5 = val B51 x 5 * val B51 y 5 + pF * q := by
  obtain ⟨q, hq⟩ := Rx_val x y
  refine ⟨- q - car B51 (Rx x y) 5 - car B51 (mulR (Rx x y)) 5, ?_⟩
  unfold mulE
  rw [carE_val, mulR_val, hq]
  grind

theorem leB_iff {K : Int} {n : Nat} {k : IntKind} {x : Nat → Int} : leB K (cellsI k n x) = true ↔ ∀ i, i < n → 0 ≤ x i ∧ x i ≤ K := by
  simp only [leB, List.all_eq_true, Bool.and_eq_true, decide_eq_true_eq]
  simp only [cellsI, List.mem_map, List.mem_range]
  constructor
  · intro h i hi
    exact h _ ⟨i, hi, rfl⟩
  · rintro h v ⟨i, hi, rfl⟩
    exact h i hi

theorem mulPins_held {x y : Nat → Int} (hx : Bd RB x) (hy : Bd RB y) : Held (mulPins x y) := by
  have hr : ∀ n : Int, 0 ≤ n → n ≤ 18446744073709551615 → IntKind.u64.has n := fun n p q => ⟨p, q⟩
  have hR : ∀ i, i < 5 → 0 ≤ VV x y 5 i ∧ VV x y 5 i ≤ 1000000000000000000000000000000000 := fun i hi => by
    have := VV_bd hx hy hi (i := 5) (Nat.le_refl 5)
    omega
  intro p hp
  unfold mulPins at hp
  rcases List.mem_append.1 hp with hp | hp
  · unfold plusPins at hp
    simp only [List.mem_flatMap, List.mem_map, List.mem_range] at hp
    obtain ⟨i, hi, k, hk, rfl⟩ := hp
    simp only
    have hj : jj i k < 5 := by
      unfold jj
      cases hb : Nat.blt (i + k) 5 with
      | true => have := Nat.blt_eq.mp hb; simpa using this
      | false => simp only [cond_false]; omega
    have hv := VV_bd hx hy hj (i := i) (by omega)
    have hxi := hx i hi
    have hyk := hy k hk
    have hw : 0 ≤ wx x i k ∧ wx x i k ≤ 42784196462510080 ∧ wx x i k * y k ≤ 192682891234690869027498887217152 := by
      have hp := prod_bd hx hy hi hk
      have hRB : RB = 2251799813816320 := rfl
      unfold wx
      cases Nat.blt (i + k) 5 with
      | true => simp only [cond_true]; exact ⟨hxi.1, by omega, by omega⟩
      | false =>
        simp only [cond_false]
        rw [wrap19 hx hi]
        have e : x i * 19 * y k = 19 * (x i * y k) := by grind
        rw [e]
        exact ⟨by omega, by omega, by omega⟩
    have hRB : RB = 2251799813816320 := rfl
    simp only [plusB, Bool.and_eq_true, hasB_iff, decide_eq_true_eq]
    generalize VV x y i (jj i k) = V at *
    generalize wx x i k * y k = W at *
    have hi5 : (i : Int) ≤ 5 := by omega
    refine ⟨hr _ (by omega) (by omega), hr _ (by omega) (by omega), hr _ hw.1 (by omega), hr _ hyk.1 (by omega), by omega⟩
  · rcases List.mem_append.1 hp with hp | hp
    · unfold addPins at hp
      simp only [List.mem_flatMap, List.mem_range, List.mem_cons, List.not_mem_nil, or_false] at hp
      obtain ⟨i, hi, hp⟩ := hp
      obtain ⟨h1, h2, h3⟩ := ch_eq hR (i := i) (by omega)
      have hv := hR i hi
      rw [h3] at hp
      generalize VV x y 5 i = V at *
      generalize car B51 (VV x y 5) i = c at *
      rcases hp with rfl | rfl
      · exact addB_iff.2 ⟨hr _ (by omega) (by omega), hr _ (by omega) (by simp only; omega), by omega, by omega⟩
      · exact addB_iff.2 ⟨hr _ (by omega) (by omega), hr _ (by simp only; omega) (by simp only; omega), by simp only; omega, by simp only; omega⟩
    · obtain ⟨h1, h2, h3⟩ := ch_eq hR (i := 5) (by omega)
      have h0 := outI_eq hR (i := 0) (by omega)
      have hd := dig_range (B := B51) (by decide) (VV x y 5) 0
      have hB : B51 = 2251799813685248 := rfl
      simp only [List.mem_cons, List.not_mem_nil, or_false] at hp
      rcases hp with rfl | rfl | rfl
      · rw [h3]
        simp only [Bool.and_eq_true, hasB_iff]
        exact ⟨hr _ (by omega) (by omega), by decide, by decide⟩
      · rw [h3, h0]
        exact addB_iff.2 ⟨hr _ (by omega) (by omega), hr _ (by omega) (by omega), by omega, by omega⟩
      · simp only
        rw [mulL_eq hR, leB_iff]
        exact mulR_bd hR

theorem mulL_mulR {x y : Nat → Int} (hx : Bd RB x) (hy : Bd RB y) : cellsI .u64 5 (carE (wd (mulL (VV x y 5)))) = cellsI .u64 5 (mulE x y) := by
  have hR : ∀ i, i < 5 → 0 ≤ VV x y 5 i ∧ VV x y 5 i ≤ 1000000000000000000000000000000000 := fun i hi => by
    have := VV_bd hx hy hi (i := 5) (Nat.le_refl 5)
    omega
  refine cellsI_congr fun i hi => ?_
  unfold mulE
  refine carE_congr (fun k hk => ?_) i hi
  rw [mulL_eq hR, wd_cellsI hk]
  exact mulR_congr (fun m hm => VV_eq hx hy hm) k hk

end Go.Num

namespace Go.Num
open Go.Ab

def W8 (x : Nat → Int) (f : Nat) : Int := val 256 (fun i => x (f + i)) 8

/-- As the program reads. -/
def loadI (x : Nat → Int) : List Value :=
  let m := fun a : Int => bits .and .u64 a 2251799813685247
  let o := bits .or .u64
  let w := IntKind.u64.wrap
  [.int .u64 (m (W8 x 0)), .int .u64 (m (o ((W8 x 0).fdiv (2 ^ 51)) (w (W8 x 8 * 2 ^ 13)))), .int .u64 (m (o ((W8 x 8).fdiv (2 ^ 38)) (w (W8 x 16 * 2 ^ 26)))), .int .u64 (m (o ((W8 x 16).fdiv (2 ^ 25)) (w (W8 x 24 * 2 ^ 39)))), .int .u64 ((W8 x 24).fdiv (2 ^ 12))]

/-- The limbs of a number of 256 bits. -/
def limbs (N : Int) (i : Nat) : Int := bif Nat.beq i 0 then N % 2251799813685248 else bif Nat.beq i 1 then N / 2251799813685248 % 2251799813685248 else
  bif Nat.beq i 2 then N / 5070602400912917605986812821504 % 2251799813685248 else bif Nat.beq i 3 then N / 11417981541647679048466287755595961091061972992 % 2251799813685248 else N / 25711008708143844408671393477458601640355247900524685364822016

theorem limbs_val (N : Int) : val B51 (limbs N) 5 = N := by
  rw [val5]
  have e1 : B51 = 2251799813685248 := rfl
  have e2 : B51 ^ 2 = 5070602400912917605986812821504 := by decide
  have e3 : B51 ^ 3 = 11417981541647679048466287755595961091061972992 := by decide
  have e4 : B51 ^ 4 = 25711008708143844408671393477458601640355247900524685364822016 := by decide
  rw [e2, e3, e4, e1]
  simp only [limbs, Nat.beq, cond_true, cond_false]
  omega

def Dg (B : Int) (n : Nat) (x : Nat → Int) : Prop := ∀ i, i < n → 0 ≤ x i ∧ x i < B

theorem u8_dg {x : Nat → Int} (h : ∀ i, IntKind.u8.has (x i)) (n : Nat) : Dg 256 n x := fun i _ => by have := has_u8 (h i); omega

theorem W8_range {x : Nat → Int} (h : ∀ i, IntKind.u8.has (x i)) (f : Nat) : 0 ≤ W8 x f ∧ W8 x f < 18446744073709551616 := by
  have := val_range (B := 256) (by decide) (d := fun i => x (f + i)) (n := 8) fun i _ => by have := has_u8 (h (f + i)); omega
  exact this

theorem val_W8 (x : Nat → Int) : val 256 x 32 = W8 x 0 + 18446744073709551616 * (W8 x 8 + 18446744073709551616 * (W8 x 16 + 18446744073709551616 * W8 x 24)) := by
  have e1 := val_split (B := 256) (t := x) (m := 8) (n := 24)
  have e2 := val_split (B := 256) (t := fun i => x (8 + i)) (m := 8) (n := 16)
  have e3 := val_split (B := 256) (t := fun i => x (8 + (8 + i))) (m := 8) (n := 8)
  have hB : (256 : Int) ^ 8 = 18446744073709551616 := by decide
  rw [hB] at e1 e2 e3
  have a0 : W8 x 0 = val 256 x 8 := val_congr fun i _ => by rw [Nat.zero_add]
  have a2 : (fun i => x (8 + (8 + i))) = fun i => x (16 + i) := funext fun i => by rw [← Nat.add_assoc]
  have a3 : (fun i => x (8 + (8 + (8 + i)))) = fun i => x (24 + i) := funext fun i => by rw [← Nat.add_assoc, ← Nat.add_assoc]
  rw [show 32 = 8 + 24 from rfl, e1, e2, e3, a0, a2, a3]
  rfl

theorem mask51_or {a b : Int} {k : Nat} (ha : 0 ≤ a) (hak : a < 2 ^ k) (hb : 0 ≤ b) (hb2 : b < 18446744073709551616) (hk : k ≤ 63) : bits .and .u64 (bits .or .u64 a (IntKind.u64.wrap (b * 2 ^ k))) 2251799813685247 = (a + b * 2 ^ k) % 2251799813685248 := by
  have hp : (0 : Int) < 2 ^ k := Int.pow_pos (by omega)
  have hp2 : (0 : Int) < 2 ^ (64 - k) := Int.pow_pos (by omega)
  have e64 : (2 : Int) ^ k * 2 ^ (64 - k) = 18446744073709551616 := by rw [← Int.pow_add, show k + (64 - k) = 64 by omega]; decide
  have hle : (2 : Int) ^ k ≤ 18446744073709551616 := by
    rw [← e64]
    have : (2 : Int) ^ k * 1 ≤ 2 ^ k * 2 ^ (64 - k) := Int.mul_le_mul_of_nonneg_left (by omega) (by omega)
    omega
  have e : IntKind.u64.wrap (b * 2 ^ k) = b % 2 ^ (64 - k) * 2 ^ k := by
    rw [wrap_u64, ← e64, Int.mul_comm b, Int.mul_emod_mul_of_pos _ _ hp, Int.mul_comm]
  have hr := Int.emod_nonneg b (Int.ne_of_gt hp2)
  have hr2 := Int.emod_lt_of_pos b hp2
  have hlt : b % 2 ^ (64 - k) * 2 ^ k + 2 ^ k ≤ 18446744073709551616 := by
    rw [← e64]
    have : (b % 2 ^ (64 - k) + 1) * 2 ^ k ≤ 2 ^ (64 - k) * 2 ^ k := Int.mul_le_mul_of_nonneg_right (by omega) (by omega)
    rw [Int.mul_comm (2 ^ k)]
    rw [Int.add_mul] at this
    omega
  have hge : 0 ≤ b % 2 ^ (64 - k) * 2 ^ k := Int.mul_nonneg hr (by omega)
  rw [e, or_comm64, or_add64 hr (by omega) ha hak (by omega), mask51 (by omega) (by omega)]
  have hm : b * 2 ^ k = b % 2 ^ (64 - k) * 2 ^ k + 18446744073709551616 * (b / 2 ^ (64 - k)) := by
    rw [← e64]
    have := Int.mul_ediv_add_emod b (2 ^ (64 - k))
    generalize b / 2 ^ (64 - k) = q at *
    generalize b % 2 ^ (64 - k) = r at *
    rw [← this]
    grind
  rw [hm]
  omega

theorem loadI_eq {x : Nat → Int} (h : ∀ i, IntKind.u8.has (x i)) : loadI x = cellsI .u64 5 (limbs (val 256 x 32)) := by
  have a0 := W8_range h 0; have a1 := W8_range h 8; have a2 := W8_range h 16; have a3 := W8_range h 24
  have e : cellsI .u64 5 (limbs (val 256 x 32)) = [.int .u64 (limbs (val 256 x 32) 0), .int .u64 (limbs (val 256 x 32) 1), .int .u64 (limbs (val 256 x 32) 2), .int .u64 (limbs (val 256 x 32) 3), .int .u64 (limbs (val 256 x 32) 4)] := rfl
  rw [e, val_W8]
  simp only [loadI]
  rw [Int.fdiv_eq_ediv_of_nonneg _ (show (0 : Int) ≤ 2 ^ 51 by decide), Int.fdiv_eq_ediv_of_nonneg _ (show (0 : Int) ≤ 2 ^ 38 by decide), Int.fdiv_eq_ediv_of_nonneg _ (show (0 : Int) ≤ 2 ^ 25 by decide), Int.fdiv_eq_ediv_of_nonneg _ (show (0 : Int) ≤ 2 ^ 12 by decide)]
  rw [mask51 (by omega) (by omega), mask51_or (k := 13) (by omega) (by omega) (by omega) (by omega) (by omega), mask51_or (k := 26) (by omega) (by omega) (by omega) (by omega) (by omega), mask51_or (k := 39) (by omega) (by omega) (by omega) (by omega) (by omega)]
  simp only [limbs, Nat.beq, cond_true, cond_false, Int.reducePow]
  generalize W8 x 0 = p at *
  generalize W8 x 8 = q at *
  generalize W8 x 16 = r at *
  generalize W8 x 24 = s at *
  simp only [List.cons.injEq, Value.int.injEq, true_and, and_true]
  refine ⟨?_, ?_, ?_, ?_, ?_⟩ <;> omega

theorem limbs_bd {N : Int} (h : 0 ≤ N) (h2 : N < 115792089237316195423570985008687907853269984665640564039457584007913129639936) : Bd 4503599627370496 (limbs N) := fun i hi => by
  unfold limbs
  cases Nat.beq i 0 <;> cases Nat.beq i 1 <;> cases Nat.beq i 2 <;> cases Nat.beq i 3 <;> simp only [cond_true, cond_false] <;> omega

/-- Nineteen added and carried. -/
def bI (y : Nat → Int) : Nat → Int
  | 0 => IntKind.u64.wrap (y 0 + 19)
  | i + 1 => IntKind.u64.wrap (y (i + 1) + (bI y i).fdiv (2 ^ 51))
def cB (y : Nat → Int) : Bool := (bI y 4).fdiv (2 ^ 51) != 0
def maskL (y : Nat → Int) (i : Nat) : Int := bits .and .u64 (bI y i) 2251799813685247
def oI (y : Nat → Int) (j : Nat) : Int :=
  bif Nat.beq j 0 then bits .or .u64 (y 0) (IntKind.u64.wrap (y 1 * 2 ^ 51)) else
  bif Nat.beq j 1 then bits .or .u64 ((y 1).fdiv (2 ^ 13)) (IntKind.u64.wrap (y 2 * 2 ^ 38)) else
  bif Nat.beq j 2 then bits .or .u64 ((y 2).fdiv (2 ^ 26)) (IntKind.u64.wrap (y 3 * 2 ^ 25)) else
  bits .or .u64 ((y 3).fdiv (2 ^ 39)) (IntKind.u64.wrap (y 4 * 2 ^ 12))
def outW (y : Nat → Int) : List Value := (List.range 32).map fun j => .int .u8 (IntKind.u8.wrap ((oI y (j / 8)).fdiv (2 ^ (8 * (j % 8)))))

/-- The 32 bytes of a number. -/
def bytesN (N : Int) : List Value := cellsI .u8 32 fun i => N / 256 ^ i % 256

theorem B5 : B51 ^ 5 = 57896044618658097711785492504343953926634992332820282019728792003956564819968 := by decide
theorem B51e : B51 = 2251799813685248 := rfl

/-- Nineteen more. -/
def t19 (y : Nat → Int) (i : Nat) : Int := bif Nat.beq i 0 then y 0 + 19 else y i

theorem bI_eq {y : Nat → Int} (h : Dg B51 5 y) : ∀ {i : Nat}, i < 5 → bI y i = car B51 (t19 y) i + t19 y i ∧ 0 ≤ bI y i ∧ bI y i ≤ 2251799813685300 := by
  intro i
  rw [Dg, B51e] at h
  induction i with
  | zero =>
    intro hi
    have := h 0 hi
    have e : bI y 0 = y 0 + 19 := by unfold bI; rw [wrap64_id (by omega) (by omega)]
    rw [e]
    simp only [car, t19, Nat.beq, cond_true]
    omega
  | succ i ih =>
    intro hi
    obtain ⟨h1, h2, h3⟩ := ih (by omega)
    have := h (i + 1) hi
    have e : bI y (i + 1) = y (i + 1) + bI y i / 2251799813685248 := by
      show IntKind.u64.wrap (y (i + 1) + (bI y i).fdiv (2 ^ 51)) = _
      rw [sh51, wrap64_id (by omega) (by omega)]
    have c1 : car B51 (t19 y) (i + 1) = (car B51 (t19 y) i + t19 y i) / 2251799813685248 := rfl
    have t1 : t19 y (i + 1) = y (i + 1) := rfl
    rw [e, c1, t1, ← h1]
    generalize bI y i = b at *
    omega

theorem t19_val (y : Nat → Int) : val B51 (t19 y) 5 = val B51 y 5 + 19 := by
  rw [val5, val5]
  simp only [t19, Nat.beq, cond_true, cond_false]
  omega

theorem cB_eq {y : Nat → Int} (h : Dg B51 5 y) : cB y = decide (57896044618658097711785492504343953926634992332820282019728792003956564819949 ≤ val B51 y 5) := by
  obtain ⟨h1, h2, h3⟩ := bI_eq h (i := 4) (by omega)
  have hc := (car_out (B := B51) (by decide) (t := t19 y) (n := 5)).1
  rw [t19_val, B5] at hc
  have hv := val_range (B := B51) (by decide) h
  rw [B5] at hv
  unfold cB
  rw [sh51, h1]
  have e : car B51 (t19 y) 5 = (car B51 (t19 y) 4 + t19 y 4) / 2251799813685248 := rfl
  rw [← e, hc]
  by_cases hp : 57896044618658097711785492504343953926634992332820282019728792003956564819949 ≤ val B51 y 5
  · have : (val B51 y 5 + 19) / 57896044618658097711785492504343953926634992332820282019728792003956564819968 = 1 := by omega
    rw [this, decide_eq_true hp]; rfl
  · have : (val B51 y 5 + 19) / 57896044618658097711785492504343953926634992332820282019728792003956564819968 = 0 := by omega
    rw [this, decide_eq_false hp]; rfl

theorem maskL_eq {y : Nat → Int} (h : Dg B51 5 y) : ∀ i, i < 5 → maskL y i = dig B51 (t19 y) i := fun i hi => by
  obtain ⟨h1, h2, h3⟩ := bI_eq h hi
  unfold maskL dig
  rw [mask51 h2 (by omega), h1]
  rfl

theorem maskL_dg {y : Nat → Int} (h : Dg B51 5 y) : Dg B51 5 (maskL y) := fun i hi => by
  rw [maskL_eq h i hi]; exact dig_range (by decide) _ _

theorem maskL_val {y : Nat → Int} (h : Dg B51 5 y) : val B51 (maskL y) 5 = (val B51 y 5 + 19) % 57896044618658097711785492504343953926634992332820282019728792003956564819968 := by
  rw [val_congr (maskL_eq h), (car_out (B := B51) (by decide)).2, t19_val, B5]

theorem or_shift {a b : Int} {k : Nat} (ha : 0 ≤ a) (hak : a < 2 ^ k) (ha2 : a < 18446744073709551616) (hb : 0 ≤ b) (hb2 : b % 2 ^ (64 - k) * 2 ^ k < 18446744073709551616) (e : IntKind.u64.wrap (b * 2 ^ k) = b % 2 ^ (64 - k) * 2 ^ k) :
    bits .or .u64 a (IntKind.u64.wrap (b * 2 ^ k)) = a + b % 2 ^ (64 - k) * 2 ^ k := by
  rw [e, or_comm64, or_add64 (Int.emod_nonneg _ (Int.ne_of_gt (Int.pow_pos (by omega)))) hb2 ha hak ha2, Int.add_comm]

theorem oI_eq {y : Nat → Int} (h : Dg B51 5 y) : oI y 0 = val B51 y 5 % 18446744073709551616 ∧ oI y 1 = val B51 y 5 / 18446744073709551616 % 18446744073709551616 ∧
    oI y 2 = val B51 y 5 / 340282366920938463463374607431768211456 % 18446744073709551616 ∧ oI y 3 = val B51 y 5 / 6277101735386680763835789423207666416102355444464034512896 % 18446744073709551616 := by
  rw [Dg, B51e] at h
  have h0 := h 0 (by omega); have h1 := h 1 (by omega); have h2 := h 2 (by omega); have h3 := h 3 (by omega); have h4 := h 4 (by omega)
  rw [val5]
  have e1 : B51 = 2251799813685248 := rfl
  have e2 : B51 ^ 2 = 5070602400912917605986812821504 := by decide
  have e3 : B51 ^ 3 = 11417981541647679048466287755595961091061972992 := by decide
  have e4 : B51 ^ 4 = 25711008708143844408671393477458601640355247900524685364822016 := by decide
  rw [e2, e3, e4, e1]
  simp only [oI, Nat.beq, cond_true, cond_false]
  rw [Int.fdiv_eq_ediv_of_nonneg _ (show (0 : Int) ≤ 2 ^ 13 by decide), Int.fdiv_eq_ediv_of_nonneg _ (show (0 : Int) ≤ 2 ^ 26 by decide), Int.fdiv_eq_ediv_of_nonneg _ (show (0 : Int) ≤ 2 ^ 39 by decide)]
  rw [or_shift (k := 51) (by omega) (by omega) (by omega) (by omega) (by omega) (by rw [wrap_u64]; omega), or_shift (k := 38) (by omega) (by omega) (by omega) (by omega) (by omega) (by rw [wrap_u64]; omega),
    or_shift (k := 25) (by omega) (by omega) (by omega) (by omega) (by omega) (by rw [wrap_u64]; omega), or_shift (k := 12) (by omega) (by omega) (by omega) (by omega) (by omega) (by rw [wrap_u64]; omega)]
  refine ⟨?_, ?_, ?_, ?_⟩ <;> simp only [Nat.reduceSub, Int.reducePow] <;> omega

theorem byte_of {W : Int} {b : Nat} (hb : b < 8) : IntKind.u8.wrap ((W % 18446744073709551616).fdiv (2 ^ (8 * b))) = W / 256 ^ b % 256 := by
  rw [wrap_u8, Int.fdiv_eq_ediv_of_nonneg _ (Int.le_of_lt (Int.pow_pos (by omega)))]
  rcases (by omega : b = 0 ∨ b = 1 ∨ b = 2 ∨ b = 3 ∨ b = 4 ∨ b = 5 ∨ b = 6 ∨ b = 7) with rfl | rfl | rfl | rfl | rfl | rfl | rfl | rfl <;> simp only [Nat.reduceMul, Int.reducePow] <;> omega

theorem outW_eq {y : Nat → Int} (h : Dg B51 5 y) : outW y = bytesN (val B51 y 5) := by
  obtain ⟨o0, o1, o2, o3⟩ := oI_eq h
  unfold outW bytesN cellsI
  apply List.map_congr_left
  intro j hj
  have hj := List.mem_range.1 hj
  have key : oI y (j / 8) = val B51 y 5 / 256 ^ (8 * (j / 8)) % 18446744073709551616 := by
    rcases (by omega : j / 8 = 0 ∨ j / 8 = 1 ∨ j / 8 = 2 ∨ j / 8 = 3) with e | e | e | e <;> rw [e]
    · rw [o0]; simp
    · rw [o1]; rfl
    · rw [o2]; rfl
    · rw [o3]; rfl
  rw [key, byte_of (by omega), Int.ediv_ediv_of_nonneg (Int.le_of_lt (Int.pow_pos (by decide))), ← Int.pow_add, show 8 * (j / 8) + j % 8 = j by omega]

theorem val5' (x : Nat → Int) : val B51 x 5 = x 0 + x 1 * 2251799813685248 + x 2 * 5070602400912917605986812821504 + x 3 * 11417981541647679048466287755595961091061972992 + x 4 * 25711008708143844408671393477458601640355247900524685364822016 := by
  have e2 : B51 ^ 2 = 5070602400912917605986812821504 := by decide
  have e3 : B51 ^ 3 = 11417981541647679048466287755595961091061972992 := by decide
  have e4 : B51 ^ 4 = 25711008708143844408671393477458601640355247900524685364822016 := by decide
  rw [val5, e2, e3, e4]
  rfl
theorem dig51 (x : Nat → Int) (i : Nat) : 0 ≤ dig B51 x i ∧ dig B51 x i < 2251799813685248 := dig_range (by decide) x i

/-- Carried twice, the limbs are digits. -/
theorem carE2_dg {x : Nat → Int} (h : Bd 9223372036854775807 x) : Dg B51 5 (carE (carE x)) := by
  obtain ⟨hz, hc0, hc1⟩ := carE_bd (by decide) (by decide) h
  have hd := dig51 x
  have z0 : carE x 0 = dig B51 x 0 + 19 * car B51 x 5 := rfl
  have z1 : carE x 1 = dig B51 x 1 := by simp [carE, Nat.beq]
  have z2 : carE x 2 = dig B51 x 2 := by simp [carE, Nat.beq]
  have z3 : carE x 3 = dig B51 x 3 := by simp [carE, Nat.beq]
  have z4 : carE x 4 = dig B51 x 4 := by simp [carE, Nat.beq]
  have b0 := hz 0 (by omega)
  have hv : 0 ≤ val B51 (carE x) 5 ∧ val B51 (carE x) 5 ≤ 57896044618658097711785492504343953926634992332820282019728792003956564819967 + 77900 := by
    rw [val5', z1, z2, z3, z4]
    have := hd 1; have := hd 2; have := hd 3; have := hd 4
    omega
  have hco := car_out (B := B51) (by decide) (t := carE x) (n := 5)
  rw [B5] at hco
  have hd2 := dig51 (carE x)
  intro i hi
  by_cases hi0 : i = 0
  · subst hi0
    have e : carE (carE x) 0 = dig B51 (carE x) 0 + 19 * car B51 (carE x) 5 := rfl
    have := hd2 0
    rw [e]
    by_cases hc : car B51 (carE x) 5 = 0
    · rw [hc]
      show 0 ≤ _ ∧ _ < (2251799813685248 : Int)
      omega
    · have h1 : car B51 (carE x) 5 = 1 := by omega
      have hdv : val B51 (dig B51 (carE x)) 5 ≤ 77900 := by omega
      have hle : dig B51 (carE x) 0 ≤ val B51 (dig B51 (carE x)) 5 := by
        rw [val5']
        have := hd2 1; have := hd2 2; have := hd2 3; have := hd2 4
        omega
      rw [h1]
      show 0 ≤ _ ∧ _ < (2251799813685248 : Int)
      omega
  · have e : carE (carE x) i = dig B51 (carE x) i := by
      have : Nat.beq i 0 = false := by rw [Bool.eq_false_iff]; exact fun e => hi0 (Nat.eq_of_beq_eq_true e)
      simp [carE, this]
    rw [e]
    exact hd2 i

theorem carE2_val (x : Nat → Int) : ∃ q, val B51 (carE (carE x)) 5 = val B51 x 5 + pF * q := by
  refine ⟨- car B51 x 5 - car B51 (carE x) 5, ?_⟩
  rw [carE_val, carE_val]
  grind

/-- What is written is the least number. -/
theorem out_least {x : Nat → Int} (h : Bd 9223372036854775807 x) :
    (cB (carE (carE x)) = true → cB (maskL (carE (carE x))) = false ∧ outW (maskL (carE (carE x))) = bytesN (val B51 x 5 % pF)) ∧
    (cB (carE (carE x)) = false → outW (carE (carE x)) = bytesN (val B51 x 5 % pF)) := by
  have hy := carE2_dg h
  obtain ⟨q, hq⟩ := carE2_val x
  have hv := val_range (B := B51) (by decide) hy
  rw [B5] at hv
  have hm : val B51 x 5 % pF = val B51 (carE (carE x)) 5 % pF := by rw [hq, Int.add_mul_emod_self_left]
  rw [hm]
  have hp : pF = 57896044618658097711785492504343953926634992332820282019728792003956564819949 := rfl
  rw [cB_eq hy]
  constructor
  · intro hc
    have hc := of_decide_eq_true hc
    have hmv := maskL_val hy
    have e : val B51 (maskL (carE (carE x))) 5 = val B51 (carE (carE x)) 5 % pF := by rw [hmv, hp]; omega
    refine ⟨?_, ?_⟩
    · rw [cB_eq (maskL_dg hy), e, hp]
      rw [decide_eq_false_iff_not]
      omega
    · rw [outW_eq (maskL_dg hy), e]
  · intro hc
    have hc := of_decide_eq_false hc
    rw [outW_eq hy]
    congr 1
    rw [hp]
    omega

end Go.Num

namespace Go.Num
open Go.Ab

def D16 : Int := 65536
theorem D16p : D16 ^ 16 = 115792089237316195423570985008687907853269984665640564039457584007913129639936 := by decide

/-- As the text carries: into digit k, and one pass. -/
def csP (t : Nat → Int) : Nat → Int
  | 0 => 0
  | k + 1 => IntKind.i64.wrap ((IntKind.i64.wrap (csP t k + t k)).tdiv 65536)
def passP (t : Nat → Int) (i : Nat) : Int :=
  bif Nat.beq i 0 then IntKind.i64.wrap ((IntKind.i64.wrap (csP t 0 + t 0)).tmod 65536 + IntKind.i64.wrap (38 * csP t 16)) else (IntKind.i64.wrap (csP t i + t i)).tmod 65536

/-- One pass. -/
def pass (t : Nat → Int) (i : Nat) : Int := dig D16 t i + (bif Nat.beq i 0 then 38 * car D16 t 16 else 0)

theorem w64 {n : Int} (h1 : -9223372036854775808 ≤ n) (h2 : n ≤ 9223372036854775807) : IntKind.i64.wrap n = n := wrap_i64 h1 h2

theorem csP_eq {t : Nat → Int} {T : Int} (hT : T ≤ 100000000000000) (h : ∀ i, i < 16 → 0 ≤ t i ∧ t i ≤ T) : ∀ {k : Nat}, k ≤ 16 → csP t k = car D16 t k ∧ 0 ≤ car D16 t k ∧ car D16 t k ≤ T / 65535 + 1 := by
  intro k
  induction k with
  | zero =>
    intro _
    have := h 0 (by omega)
    exact ⟨rfl, Int.le_refl 0, by show (0 : Int) ≤ _; omega⟩
  | succ k ih =>
    intro hk
    obtain ⟨h1, h2, h3⟩ := ih (by omega)
    have := h k (by omega)
    have e : car D16 t (k + 1) = (car D16 t k + t k) / 65536 := rfl
    simp only [csP, h1]
    rw [w64 (n := car D16 t k + t k) (by omega) (by omega), Int.tdiv_eq_ediv_of_nonneg (by omega), w64 (by omega) (by omega), e]
    exact ⟨rfl, by omega, by omega⟩

theorem passP_eq {t : Nat → Int} {T : Int} (hT : T ≤ 100000000000000) (h : ∀ i, i < 16 → 0 ≤ t i ∧ t i ≤ T) : ∀ i, i < 16 → passP t i = pass t i := fun i hi => by
  obtain ⟨h1, h2, h3⟩ := csP_eq hT h (k := i) (by omega)
  obtain ⟨g1, g2, g3⟩ := csP_eq hT h (k := 16) (by omega)
  have hti := h i hi
  have e : dig D16 t i = (car D16 t i + t i) % 65536 := rfl
  unfold passP pass
  by_cases hi0 : i = 0
  · subst hi0
    simp only [Nat.beq, cond_true]
    rw [h1, g1, w64 (n := car D16 t 0 + t 0) (by omega) (by omega), Int.tmod_eq_emod_of_nonneg (by omega), w64 (n := 38 * car D16 t 16) (by omega) (by omega), e, w64 (by omega) (by omega)]
  · have hb : Nat.beq i 0 = false := by rw [Bool.eq_false_iff]; exact fun e => hi0 (Nat.eq_of_beq_eq_true e)
    rw [hb]
    simp only [cond_false]
    rw [h1, w64 (by omega) (by omega), Int.tmod_eq_emod_of_nonneg (by omega), e, Int.add_zero]

theorem val_upd0 {B : Int} {f : Nat → Int} {c : Int} {n : Nat} (hn : 0 < n) : val B (fun i => f i + (bif Nat.beq i 0 then c else 0)) n = val B f n + c := by
  induction n with
  | zero => omega
  | succ n ih =>
    simp only [val]
    by_cases h : n = 0
    · subst h
      simp [val, Nat.beq]
    · rw [ih (by omega)]
      have hb : Nat.beq n 0 = false := by rw [Bool.eq_false_iff]; exact fun e => h (Nat.eq_of_beq_eq_true e)
      rw [hb]
      simp only [cond_false, Int.add_zero]
      omega

theorem pass_val (t : Nat → Int) : val D16 (pass t) 16 = val D16 t 16 - 2 * pF * car D16 t 16 := by
  have h := dig_val (B := D16) (t := t) (n := 16)
  have e : val D16 (pass t) 16 = val D16 (dig D16 t) 16 + 38 * car D16 t 16 := val_upd0 (by omega)
  rw [D16p] at h
  rw [e]
  unfold pF
  omega

theorem dig16 (t : Nat → Int) (i : Nat) : 0 ≤ dig D16 t i ∧ dig D16 t i < 65536 := dig_range (by decide) t i

theorem pass_range {t : Nat → Int} {T : Int} (hT : T ≤ 100000000000000) (h : ∀ i, i < 16 → 0 ≤ t i ∧ t i ≤ T) : ∀ i, i < 16 → 0 ≤ pass t i ∧ (0 < i → pass t i < 65536) ∧ pass t i ≤ 65535 + 38 * (T / 65535 + 1) := fun i hi => by
  obtain ⟨g1, g2, g3⟩ := csP_eq hT h (k := 16) (by omega)
  have := dig16 t i
  unfold pass
  by_cases hi0 : i = 0
  · subst hi0
    simp only [Nat.beq, cond_true]
    exact ⟨by omega, fun h => by omega, by omega⟩
  · have hb : Nat.beq i 0 = false := by rw [Bool.eq_false_iff]; exact fun e => hi0 (Nat.eq_of_beq_eq_true e)
    rw [hb]
    simp only [cond_false]
    exact ⟨by omega, fun h => by omega, by omega⟩

/-- A number whose lowest digit alone is too large. -/
theorem low_val {z : Nat → Int} {L : Int} (h0 : 0 ≤ z 0 ∧ z 0 ≤ L) (h : ∀ i, i < 16 → 0 < i → 0 ≤ z i ∧ z i < 65536) : 0 ≤ val D16 z 16 ∧ val D16 z 16 ≤ 115792089237316195423570985008687907853269984665640564039457584007913129639935 - 65535 + L := by
  have e : val D16 z 16 = val D16 z 1 + D16 ^ 1 * val D16 (fun i => z (1 + i)) 15 := val_split (m := 1) (n := 15)
  have hr := val_range (B := D16) (by decide) (d := fun i => z (1 + i)) (n := 15) fun i hi => h (1 + i) (by omega) (by omega)
  have e15 : D16 ^ 15 = 1766847064778384329583297500742918515827483896875618958121606201292619776 := by decide
  have e1 : D16 ^ 1 = 65536 := by decide
  rw [e15] at hr
  rw [val_one] at e
  rw [e, e1]
  omega

theorem first_dig {z : Nat → Int} (hz : ∀ i, i < 16 → 0 ≤ dig D16 z i) : dig D16 z 0 ≤ val D16 (dig D16 z) 16 := by
  have e : val D16 (dig D16 z) 16 = val D16 (dig D16 z) 1 + D16 ^ 1 * val D16 (fun i => dig D16 z (1 + i)) 15 := val_split (m := 1) (n := 15)
  have hr := val_range (B := D16) (by decide) (d := fun i => dig D16 z (1 + i)) (n := 15) fun i hi => dig16 z _
  have e1 : D16 ^ 1 = 65536 := by decide
  rw [val_one] at e
  rw [e, e1]
  omega

/-- Three passes. -/
def pass3 (t : Nat → Int) : Nat → Int := pass (pass (pass t))

theorem pass3_dg {t : Nat → Int} (h : ∀ i, i < 16 → 0 ≤ t i ∧ t i ≤ 100000000000000) : Dg 65536 16 (pass3 t) := by
  have a := pass_range (Int.le_refl _) h
  have hz := low_val (z := pass t) (L := 65535 + 38 * (100000000000000 / 65535 + 1)) ⟨(a 0 (by omega)).1, (a 0 (by omega)).2.2⟩ fun i hi h0 => ⟨(a i hi).1, (a i hi).2.1 h0⟩
  have c1 := car_out (B := D16) (by decide) (t := pass t) (n := 16)
  rw [D16p] at c1
  have f1 := first_dig (z := pass t) fun i _ => (dig16 _ i).1
  -- the second pass carries out at most once, and then its lowest digit is small or its number is
  have b1 : 0 ≤ val D16 (pass (pass t)) 16 ∧ val D16 (pass (pass t)) 16 < 115792089237316195423570985008687907853269984665640564039457584007913129639936 := by
    rw [pass_val]
    unfold pF
    omega
  have bz : ∀ i, i < 16 → 0 ≤ pass (pass t) i := fun i hi => by
    have := dig16 (pass t) i
    have h0 : 0 ≤ car D16 (pass t) 16 := by omega
    show 0 ≤ dig D16 (pass t) i + (bif Nat.beq i 0 then 38 * car D16 (pass t) 16 else 0)
    cases Nat.beq i 0 <;> simp only [cond_true, cond_false] <;> omega
  have c2 := car_out (B := D16) (by decide) (t := pass (pass t)) (n := 16)
  rw [D16p] at c2
  have c0 : car D16 (pass (pass t)) 16 = 0 := by omega
  intro i hi
  have := dig16 (pass (pass t)) i
  have e : pass3 t i = dig D16 (pass (pass t)) i := by
    unfold pass3
    rw [pass, c0]
    cases Nat.beq i 0 <;> simp
  rw [e]
  exact this

theorem pass3_val (t : Nat → Int) : ∃ q, val D16 (pass3 t) 16 = val D16 t 16 + pF * q := by
  refine ⟨- 2 * car D16 t 16 - 2 * car D16 (pass t) 16 - 2 * car D16 (pass (pass t)) 16, ?_⟩
  unfold pass3
  rw [pass_val, pass_val, pass_val]
  grind

theorem pass_congr {s t : Nat → Int} (h : ∀ i, i < 16 → s i = t i) : ∀ i, i < 16 → pass s i = pass t i := fun i hi => by
  unfold pass
  rw [car_congr h, dig_congr fun k hk => h k (by omega)]
theorem csP_congr {s t : Nat → Int} : ∀ {k : Nat}, (∀ i, i < k → s i = t i) → csP s k = csP t k := by
  intro k
  induction k with
  | zero => intro _; rfl
  | succ k ih => intro h; simp only [csP]; rw [ih fun i hi => h i (by omega), h k (by omega)]
theorem passP_congr {s t : Nat → Int} (h : ∀ i, i < 16 → s i = t i) : ∀ i, i < 16 → passP s i = passP t i := fun i hi => by
  unfold passP
  rw [csP_congr h, csP_congr (k := i) fun k hk => h k (by omega), csP_congr (k := 0) (s := s) (t := t) fun k hk => by omega, h i hi, h 0 (by omega)]

theorem passP3_eq {t : Nat → Int} (h : ∀ i, i < 16 → 0 ≤ t i ∧ t i ≤ 100000000000000) : ∀ i, i < 16 → passP (passP (passP t)) i = pass3 t i := fun i hi => by
  have a := pass_range (Int.le_refl _) h
  have ha : ∀ i, i < 16 → 0 ≤ pass t i ∧ pass t i ≤ 58000000000 := fun i hi => by have := a i hi; omega
  have b := pass_range (T := 58000000000) (by omega) ha
  have hb : ∀ i, i < 16 → 0 ≤ pass (pass t) i ∧ pass (pass t) i ≤ 40000000 := fun i hi => by have := b i hi; omega
  unfold pass3
  rw [← passP_eq (T := 40000000) (by omega) hb i hi]
  refine passP_congr (fun k hk => ?_) i hi
  rw [← passP_eq (T := 58000000000) (by omega) ha k hk]
  exact passP_congr (fun m hm => passP_eq (Int.le_refl _) h m hm) k hk

theorem pass3_congr {s t : Nat → Int} (h : ∀ i, i < 16 → s i = t i) : ∀ i, i < 16 → pass3 s i = pass3 t i :=
  pass_congr (pass_congr (pass_congr h))

end Go.Num

namespace Go.Num
open Go.Ab

/-- The digits of a product ahead of carrying. -/
def lowC (x y : Nat → Int) (k : Nat) : Int := convO id x y 16 16 k + 38 * convO id x y 16 16 (k + 16)

def lowW (x y : Nat → Int) (k : Nat) : Int := IntKind.i64.wrap (convO IntKind.i64.wrap x y 16 16 k + IntKind.i64.wrap (38 * convO IntKind.i64.wrap x y 16 16 (k + 16)))

theorem lowW_eq {x y : Nat → Int} (hx : ∀ i, i < 16 → 0 ≤ x i ∧ x i ≤ 65535) (hy : ∀ i, i < 16 → 0 ≤ y i ∧ y i ≤ 65535) : ∀ k, lowW x y k = lowC x y k ∧ 0 ≤ lowC x y k ∧ lowC x y k ≤ 2700000000000 := fun k => by
  have hq : ∀ i j, i < 16 → j < 16 → 0 ≤ x i * y j ∧ x i * y j ≤ 4294836225 := fun i j hi hj => by
    have a := hx i hi
    have b := hy j hj
    refine ⟨Int.mul_nonneg a.1 b.1, ?_⟩
    have := Int.mul_le_mul a.2 b.2 b.1 (by omega : (0 : Int) ≤ 65535)
    simpa using this
  obtain ⟨h1, h2⟩ := convO_le (w := IntKind.i64.wrap) (M := 16) hq (by omega) (fun a ha hb => w64 (by omega) (by omega)) (Nat.le_refl 16)
  have a := h2 k
  have b := h2 (k + 16)
  unfold lowW lowC
  rw [h1, w64 (n := 38 * convO id x y 16 16 (k + 16)) (by omega) (by omega), w64 (by omega) (by omega)]
  exact ⟨rfl, by omega, by omega⟩

theorem lowC_val (x y : Nat → Int) : ∃ q, val D16 (lowC x y) 16 = val D16 x 16 * val D16 y 16 + pF * q := by
  have h := convO_val (B := D16) (x := x) (y := y) (n := 16) (m := 16) (N := 32) (by omega)
  have e : val D16 (convO id x y 16 16) (16 + 16) = _ := val_split (m := 16) (n := 16)
  rw [D16p] at e
  have s : val D16 (lowC x y) 16 = val D16 (convO id x y 16 16) 16 + 38 * val D16 (fun i => convO id x y 16 16 (16 + i)) 16 := by
    unfold lowC
    rw [val_add, val_smul]
    simp only [Nat.add_comm]
  refine ⟨-2 * val D16 (fun i => convO id x y 16 16 (16 + i)) 16, ?_⟩
  rw [s, ← h, e]
  unfold pF
  omega

def mulD (x y : Nat → Int) : Nat → Int := pass3 (lowC x y)

theorem mulD_dg {x y : Nat → Int} (hx : ∀ i, i < 16 → 0 ≤ x i ∧ x i ≤ 65535) (hy : ∀ i, i < 16 → 0 ≤ y i ∧ y i ≤ 65535) : Dg 65536 16 (mulD x y) :=
  pass3_dg fun i hi => by have := lowW_eq hx hy i; omega

theorem mulD_val (x y : Nat → Int) : ∃ q, val D16 (mulD x y) 16 = val D16 x 16 * val D16 y 16 + pF * q := by
  obtain ⟨q, hq⟩ := lowC_val x y
  obtain ⟨r, hr⟩ := pass3_val (lowC x y)
  exact ⟨q + r, by unfold mulD; rw [hr, hq]; grind⟩

def addD (x y : Nat → Int) : Nat → Int := pass3 fun i => x i + y i
/-- Four times the modulus in digits. -/
def c4 (i : Nat) : Int := bif Nat.beq i 0 then 130996 else 131070
def subD (x y : Nat → Int) : Nat → Int := pass3 fun i => x i + c4 i - y i

theorem c4_val : val D16 c4 16 = 4 * pF := by decide +kernel

theorem val_sub {B : Int} {s t : Nat → Int} {n : Nat} : val B (fun i => s i - t i) n = val B s n - val B t n := by
  have e : (fun i => s i - t i) = fun i => s i + (-1) * t i := funext fun i => by omega
  rw [e, val_add (t := fun i => (-1) * t i), val_smul]
  omega

theorem addD_val (x y : Nat → Int) : ∃ q, val D16 (addD x y) 16 = val D16 x 16 + val D16 y 16 + pF * q := by
  obtain ⟨q, hq⟩ := pass3_val fun i => x i + y i
  exact ⟨q, by unfold addD; rw [hq, val_add]⟩
theorem subD_val (x y : Nat → Int) : ∃ q, val D16 (subD x y) 16 = val D16 x 16 - val D16 y 16 + pF * q := by
  obtain ⟨q, hq⟩ := pass3_val fun i => x i + c4 i - y i
  refine ⟨q + 4, ?_⟩
  unfold subD
  rw [hq, val_sub, val_add (t := c4), c4_val]
  grind

/-- The modulus in digits. -/
def mP (i : Nat) : Int := bif Nat.beq i 0 then 65517 else bif Nat.beq i 15 then 32767 else 65535
theorem mP_val : val D16 mP 16 = pF := by decide +kernel

/-- The modulus taken off, digit by digit. -/
def tkP (x : Nat → Int) (i : Nat) : Int := x i - mP i
theorem tkP_val (x : Nat → Int) : val D16 (tkP x) 16 = val D16 x 16 - pF := by
  have : val D16 (tkP x) 16 = val D16 x 16 - val D16 mP 16 := val_sub
  rw [this, mP_val]

/-- Taken off a number that is at least the modulus. -/
theorem tkP_dig {x : Nat → Int} (h : Dg 65536 16 x) (hp : pF ≤ val D16 x 16) : val D16 (dig D16 (tkP x)) 16 = val D16 x 16 - pF := by
  have hv := val_range (B := D16) (by decide) h
  rw [(car_out (B := D16) (by decide)).2, tkP_val]
  exact Int.emod_eq_of_lt (by omega) (by unfold pF at *; omega)

/-- Into a digit when the modulus is taken off, one or nothing is borrowed. -/
theorem tkP_car {x : Nat → Int} (h : Dg 65536 16 x) : ∀ {i : Nat}, i ≤ 16 → -1 ≤ car D16 (tkP x) i ∧ car D16 (tkP x) i ≤ 0 := by
  intro i
  induction i with
  | zero => intro _; exact ⟨show (-1 : Int) ≤ 0 by decide, Int.le_refl 0⟩
  | succ i ih =>
    intro hi
    obtain ⟨h1, h2⟩ := ih (by omega)
    have hx := h i (by omega)
    have hm : 0 ≤ mP i ∧ mP i ≤ 65535 := by unfold mP; cases Nat.beq i 0 <;> cases Nat.beq i 15 <;> simp
    have e : car D16 (tkP x) (i + 1) = (car D16 (tkP x) i + (x i - mP i)) / 65536 := rfl
    rw [e]
    omega

/-- Reading: two bytes a digit. -/
def rdD (x : Nat → Int) (i : Nat) : Int := x (2 * i) + 256 * x (2 * i + 1)
theorem rdD_val (x : Nat → Int) : ∀ n, val D16 (rdD x) n = val 256 x (2 * n) := by
  intro n
  induction n with
  | zero => rfl
  | succ n ih =>
    rw [show 2 * (n + 1) = 2 * n + 1 + 1 by omega]
    simp only [val]
    rw [ih]
    have e : D16 ^ n = 256 ^ (2 * n) := by rw [Int.pow_mul]; rfl
    rw [e, Int.pow_succ]
    unfold rdD
    grind

theorem rdD_dg {x : Nat → Int} (h : ∀ i, IntKind.u8.has (x i)) (n : Nat) : Dg 65536 n (rdD x) := fun i _ => by
  have := has_u8 (h (2 * i)); have := has_u8 (h (2 * i + 1))
  unfold rdD
  omega

/-- Below the modulus, by the digits from the highest down. -/
def lessK (x : Nat → Int) : Nat → Bool
  | 0 => decide (x 0 < 65517)
  | k + 1 => (x (k + 1) != 65535) || lessK x k
def lessD (x : Nat → Int) : Bool := if x 15 != 32767 then decide (x 15 < 32767) else lessK x 14

theorem lessK_eq {x : Nat → Int} : ∀ {k : Nat}, k < 15 → (∀ i, i ≤ k → 0 ≤ x i ∧ x i < 65536) → lessK x k = decide (val D16 x (k + 1) < val D16 mP (k + 1)) := by
  intro k
  induction k with
  | zero =>
    intro _ h
    simp [lessK, val, mP]
  | succ k ih =>
    intro hk h
    have hm : mP (k + 1) = 65535 := by
      have h1 : Nat.beq (k + 1) 0 = false := rfl
      have h2 : Nat.beq (k + 1) 15 = false := by rw [Bool.eq_false_iff]; exact fun e => by have := Nat.eq_of_beq_eq_true e; omega
      simp [mP, h1, h2]
    have hmr := val_range (B := D16) (by decide) (d := mP) (n := k + 1) fun i _ => by
      show 0 ≤ mP i ∧ mP i < 65536
      unfold mP; cases Nat.beq i 0 <;> cases Nat.beq i 15 <;> simp
    have hxr := val_range (B := D16) (by decide) (d := x) (n := k + 1) fun i hi => h i (by omega)
    have hx := h (k + 1) (Nat.le_refl _)
    rw [lessK, ih (by omega) fun i hi => h i (by omega)]
    have v1 : val D16 x (k + 1 + 1) = val D16 x (k + 1) + x (k + 1) * D16 ^ (k + 1) := rfl
    have v2 : val D16 mP (k + 1 + 1) = val D16 mP (k + 1) + mP (k + 1) * D16 ^ (k + 1) := rfl
    rw [v1, v2, hm]
    have hB : (0 : Int) < D16 ^ (k + 1) := Int.pow_pos (by decide)
    generalize D16 ^ (k + 1) = Q at *
    by_cases hd : x (k + 1) = 65535
    · rw [hd]
      simp only [bne_self_eq_false, Bool.false_or, decide_eq_decide]
      omega
    · have hlt : x (k + 1) * Q ≤ 65534 * Q := Int.mul_le_mul_of_nonneg_right (by omega) (by omega)
      have : (x (k + 1) != 65535) = true := by simpa using hd
      rw [this, Bool.true_or]
      symm
      rw [decide_eq_true_eq]
      omega

theorem lessD_eq {x : Nat → Int} (h : Dg 65536 16 x) : lessD x = decide (val D16 x 16 < pF) := by
  have hk := lessK_eq (x := x) (k := 14) (by omega) fun i hi => h i (by omega)
  have hx := h 15 (by omega)
  have hxr := val_range (B := D16) (by decide) (d := x) (n := 15) fun i hi => h i (by omega)
  have e1 : val D16 x 16 = val D16 x 15 + x 15 * D16 ^ 15 := rfl
  have e2 : pF = val D16 mP 15 + 32767 * D16 ^ 15 := by decide +kernel
  have hmr : 0 ≤ val D16 mP 15 ∧ val D16 mP 15 < D16 ^ 15 := by decide +kernel
  have hB : (0 : Int) < D16 ^ 15 := by decide
  unfold lessD
  rw [e1, e2, hk]
  simp only [Nat.reduceAdd]
  generalize val D16 x 15 = X at *
  generalize val D16 mP 15 = Mv at *
  generalize D16 ^ 15 = Q at *
  by_cases hd : x 15 = 32767
  · rw [hd]
    simp
  · have : (x 15 != 32767) = true := by simpa using hd
    rw [this, if_pos rfl]
    rw [decide_eq_decide]
    constructor
    · intro hl
      have hlt : x 15 * Q ≤ 32766 * Q := Int.mul_le_mul_of_nonneg_right (by omega) (by omega)
      omega
    · intro hl
      apply Classical.byContradiction
      intro hn
      have hlt : 32768 * Q ≤ x 15 * Q := Int.mul_le_mul_of_nonneg_right (by omega) (by omega)
      omega

/-- The bytes of the digits. -/
def outD (x : Nat → Int) : List Value := (List.range 32).map fun j => .int .u8 (if j % 2 = 0 then IntKind.u8.wrap ((x (j / 2)).tmod 256) else IntKind.u8.wrap (IntKind.i64.wrap ((x (j / 2)).tdiv 256)))

theorem outD_eq {x : Nat → Int} (h : Dg 65536 16 x) : outD x = bytesN (val D16 x 16) := by
  unfold outD bytesN cellsI
  apply List.map_congr_left
  intro j hj
  have hj := List.mem_range.1 hj
  have hd := val_digit (B := D16) (by decide) (d := x) (k := j / 2) (n := 16) (by omega) h
  have hx := h (j / 2) (by omega)
  have e : D16 ^ (j / 2) = 256 ^ (2 * (j / 2)) := by rw [Int.pow_mul]; rfl
  congr 1
  show _ = val D16 x 16 / 256 ^ j % 256
  rw [Int.tmod_eq_emod_of_nonneg hx.1, Int.tdiv_eq_ediv_of_nonneg hx.1, w64 (by omega) (by omega), wrap_u8, wrap_u8, hd, e]
  show (if j % 2 = 0 then val D16 x 16 / 256 ^ (2 * (j / 2)) % 65536 % 256 % 256 else val D16 x 16 / 256 ^ (2 * (j / 2)) % 65536 / 256 % 256) = _
  by_cases h2 : j % 2 = 0
  · rw [if_pos h2, show 2 * (j / 2) = j by omega]
    omega
  · rw [if_neg h2]
    have e2 : (256 : Int) ^ j = 256 ^ (2 * (j / 2)) * 256 := by rw [← Int.pow_succ]; congr 1; omega
    rw [e2, ← Int.ediv_ediv_of_nonneg (Int.le_of_lt (Int.pow_pos (by decide)))]
    omega

end Go.Num

namespace Go.Num
open Go.Ab

/-- The same modulo the field's prime. -/
def Eqp (a b : Int) : Prop := ∃ q, a = b + pF * q

theorem Eqp.refl (a : Int) : Eqp a a := ⟨0, by simp⟩
theorem Eqp.symm {a b : Int} (h : Eqp a b) : Eqp b a := by obtain ⟨q, h⟩ := h; exact ⟨-q, by rw [h]; grind⟩
theorem Eqp.trans {a b c : Int} (h : Eqp a b) (k : Eqp b c) : Eqp a c := by obtain ⟨q, h⟩ := h; obtain ⟨r, k⟩ := k; exact ⟨q + r, by rw [h, k]; grind⟩
theorem Eqp.add {a b c d : Int} (h : Eqp a b) (k : Eqp c d) : Eqp (a + c) (b + d) := by obtain ⟨q, h⟩ := h; obtain ⟨r, k⟩ := k; exact ⟨q + r, by rw [h, k]; grind⟩
theorem Eqp.sub {a b c d : Int} (h : Eqp a b) (k : Eqp c d) : Eqp (a - c) (b - d) := by obtain ⟨q, h⟩ := h; obtain ⟨r, k⟩ := k; exact ⟨q - r, by rw [h, k]; grind⟩
theorem Eqp.mul {a b c d : Int} (h : Eqp a b) (k : Eqp c d) : Eqp (a * c) (b * d) := by obtain ⟨q, h⟩ := h; obtain ⟨r, k⟩ := k; exact ⟨b * r + q * d + pF * q * r, by rw [h, k]; grind⟩
theorem Eqp.mod {a b : Int} (h : Eqp a b) : a % pF = b % pF := by obtain ⟨q, h⟩ := h; rw [h, Int.add_mul_emod_self_left]
theorem Eqp.of_mod {a b : Int} (h : a % pF = b % pF) : Eqp a b := ⟨a / pF - b / pF, by
  have h1 := Int.mul_ediv_add_emod a pF
  have h2 := Int.mul_ediv_add_emod b pF
  rw [Int.mul_sub]
  omega⟩

def addE (x y : Nat → Int) : Nat → Int := carE fun i => x i + y i
def cS (i : Nat) : Int := bif Nat.beq i 0 then 4503599627370458 else 4503599627370494
def subE (x y : Nat → Int) : Nat → Int := carE fun i => x i + (cS i - carE y i)

theorem addE_bd {x y : Nat → Int} (hx : Bd RB x) (hy : Bd RB y) : Bd RB (addE x y) := carE_rb fun i hi => by have := hx i hi; have := hy i hi; unfold RB at *; omega
theorem cS_range (i : Nat) : 4503599627370458 ≤ cS i ∧ cS i ≤ 4503599627370494 := by unfold cS; cases Nat.beq i 0 <;> simp
theorem sub_bd {x y : Nat → Int} (hx : Bd RB x) (hy : Bd RB y) : Bd 9223372036854775807 (fun i => x i + (cS i - carE y i)) := fun i hi => by
  have := hx i hi
  have := carE_rb (bd_mono (K := RB) (by decide) hy) i hi
  have := cS_range i
  unfold RB at *
  simp only
  omega
theorem subE_bd {x y : Nat → Int} (hx : Bd RB x) (hy : Bd RB y) : Bd RB (subE x y) := carE_rb (sub_bd hx hy)

theorem carE_eqp (x : Nat → Int) : Eqp (val B51 (carE x) 5) (val B51 x 5) := ⟨- car B51 x 5, by rw [carE_val]; grind⟩
theorem addE_eqp (x y : Nat → Int) : Eqp (val B51 (addE x y) 5) (val B51 x 5 + val B51 y 5) := by
  have := carE_eqp fun i => x i + y i
  rwa [val_add] at this
theorem cS_val : val B51 cS 5 = 2 * pF := by decide +kernel
theorem subE_eqp (x y : Nat → Int) : Eqp (val B51 (subE x y) 5) (val B51 x 5 - val B51 y 5) := by
  have h1 := carE_eqp fun i => x i + (cS i - carE y i)
  rw [val_add (t := fun i => cS i - carE y i), val_sub, cS_val] at h1
  have h2 : Eqp (val B51 x 5 + (2 * pF - val B51 (carE y) 5)) (val B51 x 5 + (0 - val B51 y 5)) := (Eqp.refl _).add (Eqp.sub ⟨2, by grind⟩ (carE_eqp y))
  have e : val B51 x 5 + (0 - val B51 y 5) = val B51 x 5 - val B51 y 5 := by omega
  rw [e] at h2
  exact h1.trans h2
theorem mulE_eqp (x y : Nat → Int) : Eqp (val B51 (mulE x y) 5) (val B51 x 5 * val B51 y 5) := mulE_val x y
theorem mulD_eqp (x y : Nat → Int) : Eqp (val D16 (mulD x y) 16) (val D16 x 16 * val D16 y 16) := mulD_val x y
theorem addD_eqp (x y : Nat → Int) : Eqp (val D16 (addD x y) 16) (val D16 x 16 + val D16 y 16) := addD_val x y
theorem subD_eqp (x y : Nat → Int) : Eqp (val D16 (subD x y) 16) (val D16 x 16 - val D16 y 16) := subD_val x y

/-! ### The ladder -/
structure Pt where
  x : Int
  z : Int

def sq (a : Int) : Int := a * a
def dbl (p : Pt) : Pt :=
  let aa := sq (p.x + p.z)
  let bb := sq (p.x - p.z)
  ⟨aa * bb, (aa - bb) * (aa + 121665 * (aa - bb))⟩
def dadd (p q : Pt) (u : Int) : Pt :=
  ⟨sq ((q.x - q.z) * (p.x + p.z) + (q.x + q.z) * (p.x - p.z)), u * sq ((q.x - q.z) * (p.x + p.z) - (q.x + q.z) * (p.x - p.z))⟩

theorem dadd_comm (p q : Pt) (u : Int) : dadd p q u = dadd q p u := by
  simp only [dadd, sq, Pt.mk.injEq]
  constructor <;> grind

/-- The pair of points behind n bits. -/
def lad (b : Nat → Bool) (u : Int) : Nat → Pt × Pt
  | 0 => (⟨1, 0⟩, ⟨u, 1⟩)
  | n + 1 =>
    let p := lad b u n
    if b (254 - n) then (dadd p.1 p.2 u, dbl p.2) else (dbl p.1, dadd p.1 p.2 u)

/-- The power p - 2. -/
def pwr (a : Int) : Nat → Int
  | 0 => 1
  | n + 1 => if n = 252 ∨ n = 250 then pwr a n * pwr a n else pwr a n * pwr a n * a

/-- Bit n of a clamped scalar. -/
def bitF (k : Nat → Int) (n : Nat) : Bool := if n = 255 ∨ n < 3 then false else if n = 254 then true else decide (k (n / 8) / 2 ^ (n % 8) % 2 = 1)

/-- The product, as a number. -/
def smF (k : Nat → Int) (u : Int) : Int := (lad (bitF k) u 255).1.x * pwr (lad (bitF k) u 255).1.z 255

def EqP (p q : Pt) : Prop := Eqp p.x q.x ∧ Eqp p.z q.z

theorem dbl_eqp {p q : Pt} (h : EqP p q) : EqP (dbl p) (dbl q) := by
  have a := (h.1.add h.2).mul (h.1.add h.2)
  have b := (h.1.sub h.2).mul (h.1.sub h.2)
  have e := a.sub b
  exact ⟨a.mul b, e.mul (a.add ((Eqp.refl 121665).mul e))⟩
theorem dadd_eqp {p q p' q' : Pt} {u u' : Int} (h : EqP p p') (k : EqP q q') (hu : Eqp u u') : EqP (dadd p q u) (dadd p' q' u') := by
  have a := (k.1.sub k.2).mul (h.1.add h.2)
  have b := (k.1.add k.2).mul (h.1.sub h.2)
  exact ⟨(a.add b).mul (a.add b), hu.mul ((a.sub b).mul (a.sub b))⟩

theorem lad_eqp {b : Nat → Bool} {u u' : Int} (h : Eqp u u') : ∀ n, EqP (lad b u n).1 (lad b u' n).1 ∧ EqP (lad b u n).2 (lad b u' n).2 := by
  intro n
  induction n with
  | zero => exact ⟨⟨.refl _, .refl _⟩, ⟨h, .refl _⟩⟩
  | succ n ih =>
    simp only [lad]
    split
    · exact ⟨dadd_eqp ih.1 ih.2 h, dbl_eqp ih.2⟩
    · exact ⟨dbl_eqp ih.1, dadd_eqp ih.1 ih.2 h⟩

theorem pwr_eqp {a b : Int} (h : Eqp a b) : ∀ n, Eqp (pwr a n) (pwr b n) := by
  intro n
  induction n with
  | zero => exact .refl _
  | succ n ih =>
    simp only [pwr]
    split
    · exact ih.mul ih
    · exact (ih.mul ih).mul h

end Go.Num

namespace Go.Num
open Go.Ab

def P130 : Int := 1361129467683753853853498429727072845819

/-- A number in three words. -/
def hw3 (N : Int) : List Value := [.int .u64 (N % 18446744073709551616), .int .u64 (N / 18446744073709551616 % 18446744073709551616), .int .u64 (N / 340282366920938463463374607431768211456)]
def num3 (h0 h1 h2 : Int) : Int := h0 + 18446744073709551616 * h1 + 340282366920938463463374607431768211456 * h2
def polyC (r0 r1 N : Int) : List Value := .int .u64 r0 :: .int .u64 r1 :: hw3 N

def plusOk (h0 h1 h2 low high : Int) : Bool := hasB .u64 h0 && (hasB .u64 h1 && (hasB .u64 h2 && (hasB .u64 low && (hasB .u64 high && decide (num3 h0 h1 h2 + low + 18446744073709551616 * high < 6277101735386680763835789423207666416102355444464034512896)))))

def pplusSum (f : FuncId) : Sum :=
  { f := f, ro := false
    S := fun args os => match args, os with
      | [.pointer (some ⟨0, 0, some 5⟩), .int .u64 low, .int .u64 high], [⟨[.int .u64 r0, .int .u64 r1, .int .u64 h0, .int .u64 h1, .int .u64 h2], g, e, true⟩] =>
        some (.tuple ⟨[]⟩, [⟨polyC r0 r1 (num3 h0 h1 h2 + low + 18446744073709551616 * high), g, e, true⟩], [])
      | _, _ => none
    C := fun args os => match args, os with
      | [_, .int .u64 low, .int .u64 high], [⟨[_, _, .int .u64 h0, .int .u64 h1, .int .u64 h2], _, _, _⟩] => [(plusOk h0 h1 h2 low high, true)]
      | _, _ => [] }

def plusRaw (r0 r1 h0 h1 h2 low high : Int) : List Value :=
  [.int .u64 r0, .int .u64 r1, .int .u64 ((h0 + low + 0) % 18446744073709551616), .int .u64 ((h1 + high + (h0 + low + 0) / 18446744073709551616) % 18446744073709551616),
   .int .u64 (IntKind.u64.wrap (h2 + (h1 + high + (h0 + low + 0) / 18446744073709551616) / 18446744073709551616))]
def plusPinsP (h0 h1 low high : Int) : Pins := [(addB h0 low 0, true), (addB h1 high ((h0 + low + 0) / 18446744073709551616), true)]

theorem has64 {n : Int} (h1 : 0 ≤ n) (h2 : n ≤ 18446744073709551615) : IntKind.u64.has n := ⟨h1, h2⟩

theorem pplusSum_sound {P : Program} {M : Mem} {f : FuncId} {fn : Func} (hf : P.funcs[f]? = some fn) (hn : (fn.name == "runtime.NumGoroutine") = false) (hb : fn.body.isSome = true)
    (h : ∀ (r0 r1 h0 h1 h2 low high : Int) (g : Bool) (e : Nat), Held (plusPinsP h0 h1 low high) → ACalls P M f [.pointer (some ⟨0, 0, some 5⟩), .int .u64 low, .int .u64 high] [⟨[.int .u64 r0, .int .u64 r1, .int .u64 h0, .int .u64 h1, .int .u64 h2], g, e, true⟩]
      (.tuple ⟨[]⟩) [⟨plusRaw r0 r1 h0 h1 h2 low high, g, e, true⟩] []) : (pplusSum f).SoundC P M := by
  refine sumC_sound hf hn hb fun args os v os' ns hs hp => ?_
  simp only [pplusSum] at hs hp ⊢
  split at hs
  · rename_i low high r0 r1 h0 h1 h2 g e
    cases hs
    refine ⟨?_, fun h => by cases h⟩
    have hc : plusOk h0 h1 h2 low high = true := hp (plusOk h0 h1 h2 low high, true) (List.Mem.head _)
    simp only [plusOk, Bool.and_eq_true, hasB_iff, decide_eq_true_eq] at hc
    obtain ⟨c1, c2, c3, c4, c5, c6⟩ := hc
    unfold num3 at c6
    have i1 := has_u64 c1; have i2 := has_u64 c2; have i3 := has_u64 c3; have i4 := has_u64 c4; have i5 := has_u64 c5
    have := h r0 r1 h0 h1 h2 low high g e (held_cons (addB_iff.2 ⟨c1, c4, by omega, by omega⟩) (held_one (addB_iff.2 ⟨c2, c5, by omega, by omega⟩)))
    have e : plusRaw r0 r1 h0 h1 h2 low high = polyC r0 r1 (num3 h0 h1 h2 + low + 18446744073709551616 * high) := by
      simp only [plusRaw, polyC, hw3, num3, wrap_u64, List.cons.injEq, Value.int.injEq, true_and, and_true]
      refine ⟨?_, ?_, ?_⟩ <;> omega
    rw [e] at this
    exact this
  · cases hs

/-! ### Multiplying -/
structure M4 where
  t0 : Int
  t1 : Int
  t2 : Int
  t3 : Int

/-- The four words of the product, as the program adds them. -/
def m4 (r0 r1 h0 h1 h2 : Int) : M4 :=
  let T : Int := 18446744073709551616
  let u1 := h0 * r0 / T + h1 * r0 % T + 0
  let u2 := h1 * r0 / T + h0 * r1 / T + u1 / T
  let v1 := u1 % T + h0 * r1 % T + 0
  let v2 := u2 % T + h1 * r1 % T + v1 / T
  let v3 := u2 / T + h1 * r1 / T + v2 / T
  let w2 := v2 % T + IntKind.u64.wrap (h2 * r0) + 0
  ⟨h0 * r0 % T, v1 % T, w2 % T, IntKind.u64.wrap (v3 % T + IntKind.u64.wrap (IntKind.u64.wrap (h2 * r1) + w2 / T))⟩

def m4Pins (r0 r1 h0 h1 h2 : Int) : Pins :=
  let T : Int := 18446744073709551616
  let u1 := h0 * r0 / T + h1 * r0 % T + 0
  let u2 := h1 * r0 / T + h0 * r1 / T + u1 / T
  let v1 := u1 % T + h0 * r1 % T + 0
  let v2 := u2 % T + h1 * r1 % T + v1 / T
  let v3 := u2 / T + h1 * r1 / T + v2 / T
  let w2 := v2 % T + IntKind.u64.wrap (h2 * r0) + 0
  [(hasB .u64 h0 && hasB .u64 r0, true), (hasB .u64 h1 && hasB .u64 r0, true), (hasB .u64 h0 && hasB .u64 r1, true), (hasB .u64 h1 && hasB .u64 r1, true),
   (addB (h0 * r0 / T) (h1 * r0 % T) 0, true), (addB (h1 * r0 / T) (h0 * r1 / T) (u1 / T), true), (addB (u1 % T) (h0 * r1 % T) 0, true), (addB (u2 % T) (h1 * r1 % T) (v1 / T), true), (addB (u2 / T) (h1 * r1 / T) (v2 / T), true), (addB (v2 % T) (IntKind.u64.wrap (h2 * r0)) 0, true)]

def polyOk (r0 r1 h0 h1 h2 : Int) : Bool := decide (0 ≤ r0 ∧ r0 < 1152921504606846976) && (decide (0 ≤ r1 ∧ r1 < 1152921504606846976) && (hasB .u64 h0 && (hasB .u64 h1 && decide (0 ≤ h2 ∧ h2 ≤ 7))))
theorem polyOk_iff {r0 r1 h0 h1 h2 : Int} : polyOk r0 r1 h0 h1 h2 = true ↔ (0 ≤ r0 ∧ r0 < 1152921504606846976) ∧ (0 ≤ r1 ∧ r1 < 1152921504606846976) ∧ IntKind.u64.has h0 ∧ IntKind.u64.has h1 ∧ 0 ≤ h2 ∧ h2 ≤ 7 := by
  simp [polyOk, hasB_iff]

theorem m4_ok {r0 r1 h0 h1 h2 : Int} (h : polyOk r0 r1 h0 h1 h2 = true) : Held (m4Pins r0 r1 h0 h1 h2) ∧
    (m4 r0 r1 h0 h1 h2).t0 = num3 h0 h1 h2 * (r0 + 18446744073709551616 * r1) % 18446744073709551616 ∧
    (m4 r0 r1 h0 h1 h2).t1 = num3 h0 h1 h2 * (r0 + 18446744073709551616 * r1) / 18446744073709551616 % 18446744073709551616 ∧
    (m4 r0 r1 h0 h1 h2).t2 = num3 h0 h1 h2 * (r0 + 18446744073709551616 * r1) / 340282366920938463463374607431768211456 % 18446744073709551616 ∧
    (m4 r0 r1 h0 h1 h2).t3 = num3 h0 h1 h2 * (r0 + 18446744073709551616 * r1) / 6277101735386680763835789423207666416102355444464034512896 ∧
    0 ≤ num3 h0 h1 h2 * (r0 + 18446744073709551616 * r1) ∧ num3 h0 h1 h2 * (r0 + 18446744073709551616 * r1) < 57896044618658097711785492504343953926634992332820282019728792003956564819968 := by
  obtain ⟨⟨a1, a2⟩, ⟨b1, b2⟩, c, d, e1, e2⟩ := polyOk_iff.1 h
  obtain ⟨c1, c2⟩ := has_u64 c
  obtain ⟨d1, d2⟩ := has_u64 d
  have p00 : 0 ≤ h0 * r0 ∧ h0 * r0 ≤ 18446744073709551615 * 1152921504606846975 := ⟨Int.mul_nonneg c1 a1, Int.mul_le_mul c2 (by omega) a1 (by omega)⟩
  have p10 : 0 ≤ h1 * r0 ∧ h1 * r0 ≤ 18446744073709551615 * 1152921504606846975 := ⟨Int.mul_nonneg d1 a1, Int.mul_le_mul d2 (by omega) a1 (by omega)⟩
  have p01 : 0 ≤ h0 * r1 ∧ h0 * r1 ≤ 18446744073709551615 * 1152921504606846975 := ⟨Int.mul_nonneg c1 b1, Int.mul_le_mul c2 (by omega) b1 (by omega)⟩
  have p11 : 0 ≤ h1 * r1 ∧ h1 * r1 ≤ 18446744073709551615 * 1152921504606846975 := ⟨Int.mul_nonneg d1 b1, Int.mul_le_mul d2 (by omega) b1 (by omega)⟩
  have p20 : 0 ≤ h2 * r0 ∧ h2 * r0 ≤ 7 * 1152921504606846975 := ⟨Int.mul_nonneg e1 a1, Int.mul_le_mul e2 (by omega) a1 (by omega)⟩
  have p21 : 0 ≤ h2 * r1 ∧ h2 * r1 ≤ 7 * 1152921504606846975 := ⟨Int.mul_nonneg e1 b1, Int.mul_le_mul e2 (by omega) b1 (by omega)⟩
  have w20 : IntKind.u64.wrap (h2 * r0) = h2 * r0 := by rw [wrap_u64]; omega
  have w21 : IntKind.u64.wrap (h2 * r1) = h2 * r1 := by rw [wrap_u64]; omega
  have eX : num3 h0 h1 h2 * (r0 + 18446744073709551616 * r1) = h0 * r0 + 18446744073709551616 * (h1 * r0 + h0 * r1) + 340282366920938463463374607431768211456 * (h1 * r1 + h2 * r0) + 6277101735386680763835789423207666416102355444464034512896 * (h2 * r1) := by
    unfold num3; grind
  rw [eX]
  simp only [m4, m4Pins, w20, w21]
  have hr0 : IntKind.u64.has r0 := has64 a1 (by omega)
  have hr1 : IntKind.u64.has r1 := has64 b1 (by omega)
  generalize h0 * r0 = A at *
  generalize h1 * r0 = B at *
  generalize h0 * r1 = C at *
  generalize h1 * r1 = D at *
  generalize h2 * r0 = E at *
  generalize h2 * r1 = F at *
  clear eX h w20 w21
  have hb : ∀ x y, IntKind.u64.has x → IntKind.u64.has y → (hasB .u64 x && hasB .u64 y) = true := fun x y hx hy => by rw [hasB_iff.2 hx, hasB_iff.2 hy]; rfl
  -- names for the sums on the way
  generalize hu1 : A / 18446744073709551616 + B % 18446744073709551616 + 0 = u1
  have bu1 : 0 ≤ u1 ∧ u1 < 2 * 18446744073709551616 := by omega
  generalize hu2 : B / 18446744073709551616 + C / 18446744073709551616 + u1 / 18446744073709551616 = u2
  have bu2 : 0 ≤ u2 ∧ u2 < 2 * 18446744073709551616 := by omega
  generalize hv1 : u1 % 18446744073709551616 + C % 18446744073709551616 + 0 = v1
  have bv1 : 0 ≤ v1 ∧ v1 < 2 * 18446744073709551616 := by omega
  generalize hv2 : u2 % 18446744073709551616 + D % 18446744073709551616 + v1 / 18446744073709551616 = v2
  have bv2 : 0 ≤ v2 ∧ v2 < 2 * 18446744073709551616 := by omega
  generalize hv3 : u2 / 18446744073709551616 + D / 18446744073709551616 + v2 / 18446744073709551616 = v3
  have bv3 : 0 ≤ v3 ∧ v3 ≤ 1152921504606846979 := by omega
  generalize hw2 : v2 % 18446744073709551616 + E + 0 = w2
  have bw2 : 0 ≤ w2 ∧ w2 < 2 * 18446744073709551616 := by omega
  have wF : IntKind.u64.wrap (F + w2 / 18446744073709551616) = F + w2 / 18446744073709551616 := by rw [wrap_u64]; omega
  have wV : IntKind.u64.wrap (v3 % 18446744073709551616 + (F + w2 / 18446744073709551616)) = v3 + F + w2 / 18446744073709551616 := by rw [wrap_u64]; omega
  rw [wF, wV]
  refine ⟨?_, ?_⟩
  · refine held_cons (hb _ _ c hr0) (held_cons (hb _ _ d hr0) (held_cons (hb _ _ c hr1) (held_cons (hb _ _ d hr1) (held_cons ?_ (held_cons ?_ (held_cons ?_ (held_cons ?_ (held_cons ?_ (held_one ?_)))))))))
    all_goals exact addB_iff.2 ⟨has64 (by omega) (by omega), has64 (by omega) (by omega), by omega, by omega⟩
  · have key : A + 18446744073709551616 * (B + C) + 340282366920938463463374607431768211456 * (D + E) + 6277101735386680763835789423207666416102355444464034512896 * F =
        A % 18446744073709551616 + 18446744073709551616 * (v1 % 18446744073709551616) + 340282366920938463463374607431768211456 * (w2 % 18446744073709551616) + 6277101735386680763835789423207666416102355444464034512896 * (v3 + F + w2 / 18446744073709551616) := by omega
    rw [key]
    generalize A % 18446744073709551616 = z0 at *
    have hz0 : 0 ≤ z0 ∧ z0 < 18446744073709551616 := by omega
    have hz1 : 0 ≤ v1 % 18446744073709551616 ∧ v1 % 18446744073709551616 < 18446744073709551616 := by omega
    have hz2 : 0 ≤ w2 % 18446744073709551616 ∧ w2 % 18446744073709551616 < 18446744073709551616 := by omega
    have hz3 : 0 ≤ v3 + F + w2 / 18446744073709551616 ∧ v3 + F + w2 / 18446744073709551616 < 9223372036854775808 := by omega
    generalize v1 % 18446744073709551616 = z1 at *
    generalize w2 % 18446744073709551616 = z2 at *
    generalize v3 + F + w2 / 18446744073709551616 = z3 at *
    clear key
    refine ⟨?_, ?_, ?_, ?_, ?_, ?_⟩ <;> omega

/-! ### Modulo 2^130 - 5 -/
/-- The product, once folded. -/
def foldP (X : Int) : Int := X % 1361129467683753853853498429727072845824 + 5 * (X / 1361129467683753853853498429727072845824)

theorem foldP_mod (X : Int) : foldP X % P130 = X % P130 := by
  have e : X = foldP X + P130 * (X / 1361129467683753853853498429727072845824) := by unfold foldP P130; omega
  conv => rhs; rw [e]
  rw [Int.add_mul_emod_self_left]

theorem foldP_lt {X : Int} (h : 0 ≤ X) (h2 : X < 57896044618658097711785492504343953926634992332820282019728792003956564819968) : 0 ≤ foldP X ∧ foldP X < 1361129467683753853853498429727072845824 + 340282366920938463463374607431768211456 := by
  unfold foldP; omega

def andNot3 (x : Int) : Int := bits .andNot .u64 x 3

theorem and3 {x : Int} (h : 0 ≤ x) (h2 : x < 18446744073709551616) : bits .and .u64 x 3 = x % 4 := and_mask64 (k := 2) h h2 (by omega)

theorem andNot3_eq {x : Int} (h : 0 ≤ x) (h2 : x < 18446744073709551616) : andNot3 x = x / 4 * 4 := by
  obtain ⟨n, rfl⟩ := Int.eq_ofNat_of_zero_le h
  have hn : n < 2 ^ 64 := by omega
  unfold andNot3
  show IntKind.u64.wrap ((BitVec.ofInt 64 (n : Int) &&& ~~~ BitVec.ofInt 64 3).toNat : Int) = _
  have hm : ∀ i : Fin 64, Nat.testBit 18446744073709551612 i.val = decide (2 ≤ i.val) := by decide +kernel
  have e : (BitVec.ofInt 64 (n : Int) &&& ~~~ BitVec.ofInt 64 3).toNat = n / 4 * 4 := by
    rw [BitVec.toNat_and, ofInt_nat hn, show (~~~ BitVec.ofInt 64 3).toNat = 18446744073709551612 from rfl]
    apply Nat.eq_of_testBit_eq
    intro i
    have e4 : n / 4 * 4 = (n >>> 2) <<< 2 := by rw [Nat.shiftRight_eq_div_pow, Nat.shiftLeft_eq]
    rw [e4, Nat.testBit_and, Nat.testBit_shiftLeft, Nat.testBit_shiftRight]
    by_cases hi : i < 64
    · rw [hm ⟨i, hi⟩]
      by_cases h2 : 2 ≤ i
      · have e5 : 2 + (i - 2) = i := by omega
        simp [h2, e5]
      · simp [h2]
    · have h1 : n.testBit i = false := Nat.testBit_lt_two_pow (by have : 2 ^ 64 ≤ 2 ^ i := Nat.pow_le_pow_right (by omega) (by omega); omega)
      have e5 : 2 + (i - 2) = i := by omega
      simp [h1, e5]
  rw [e, wrap_u64]
  omega

end Go.Num

namespace Go.Num
open Go.Ab

def n1 (m : M4) : Int := num3 m.t0 m.t1 (bits .and .u64 m.t2 3) + andNot3 m.t2 + 18446744073709551616 * m.t3
def low2 (m : M4) : Int := bits .or .u64 ((andNot3 m.t2).fdiv (2 ^ 2)) (IntKind.u64.wrap (m.t3 * 2 ^ 62))
def mulRaw (r0 r1 : Int) (m : M4) : List Value := polyC r0 r1 (num3 (n1 m % 18446744073709551616) (n1 m / 18446744073709551616 % 18446744073709551616) (n1 m / 340282366920938463463374607431768211456) + low2 m + 18446744073709551616 * m.t3.fdiv (2 ^ 2))
def mulRawPins (m : M4) : Pins := [(plusOk m.t0 m.t1 (bits .and .u64 m.t2 3) (andNot3 m.t2) m.t3, true),
  (plusOk (n1 m % 18446744073709551616) (n1 m / 18446744073709551616 % 18446744073709551616) (n1 m / 340282366920938463463374607431768211456) (low2 m) (m.t3.fdiv (2 ^ 2)), true)]

theorem num3_split {N : Int} : num3 (N % 18446744073709551616) (N / 18446744073709551616 % 18446744073709551616) (N / 340282366920938463463374607431768211456) = N := by
  unfold num3; omega

theorem mulRaw_ok {r0 r1 : Int} {m : M4} {X : Int} (h0 : m.t0 = X % 18446744073709551616) (h1 : m.t1 = X / 18446744073709551616 % 18446744073709551616) (h2 : m.t2 = X / 340282366920938463463374607431768211456 % 18446744073709551616)
    (h3 : m.t3 = X / 6277101735386680763835789423207666416102355444464034512896) (hX : 0 ≤ X) (hX2 : X < 57896044618658097711785492504343953926634992332820282019728792003956564819968) :
    mulRaw r0 r1 m = polyC r0 r1 (foldP X) ∧ Held (mulRawPins m) := by
  have b2 : 0 ≤ m.t2 ∧ m.t2 < 18446744073709551616 := by omega
  have b3 : 0 ≤ m.t3 ∧ m.t3 < 9223372036854775808 := by omega
  have e1 := and3 b2.1 b2.2
  have e2 := andNot3_eq b2.1 b2.2
  have hn1 : n1 m = X % 1361129467683753853853498429727072845824 + 4 * (X / 1361129467683753853853498429727072845824) := by
    unfold n1 num3
    rw [e1, e2]
    omega
  have hlow : low2 m = m.t2 / 4 + m.t3 % 4 * 4611686018427387904 := by
    unfold low2
    have e : IntKind.u64.wrap (m.t3 * 2 ^ 62) = (m.t3 % 4) * 2 ^ 62 := by rw [wrap_u64]; omega
    rw [e2, Int.fdiv_eq_ediv_of_nonneg _ (by decide), or_comm64, e, or_add64 (by omega) (by omega) (by omega) (by omega) (by omega)]
    omega
  have hhi : m.t3.fdiv (2 ^ 2) = m.t3 / 4 := Int.fdiv_eq_ediv_of_nonneg _ (by decide)
  have hsum : low2 m + 18446744073709551616 * m.t3.fdiv (2 ^ 2) = X / 1361129467683753853853498429727072845824 := by
    rw [hlow, hhi]
    omega
  refine ⟨?_, ?_⟩
  · unfold mulRaw
    rw [num3_split]
    congr 1
    unfold foldP
    omega
  · have hr := fun (n : Int) (p : 0 ≤ n) (q : n ≤ 18446744073709551615) => hasB_iff.2 (has64 p q)
    refine held_cons ?_ (held_one ?_)
    · simp only [plusOk, Bool.and_eq_true, decide_eq_true_eq]
      rw [e1, e2]
      refine ⟨hr _ (by omega) (by omega), hr _ (by omega) (by omega), hr _ (by omega) (by omega), hr _ (by omega) (by omega), hr _ (by omega) (by omega), ?_⟩
      unfold num3
      omega
    · simp only [plusOk, Bool.and_eq_true, decide_eq_true_eq]
      rw [num3_split, hlow, hhi, hn1]
      refine ⟨hr _ (by omega) (by omega), hr _ (by omega) (by omega), hr _ (by omega) (by omega), hr _ (by omega) (by omega), hr _ (by omega) (by omega), ?_⟩
      omega

def pmulSum (f : FuncId) : Sum :=
  { f := f, ro := false
    S := fun args os => match args, os with
      | [.pointer (some ⟨0, 0, some 5⟩)], [⟨[.int .u64 r0, .int .u64 r1, .int .u64 h0, .int .u64 h1, .int .u64 h2], g, e, true⟩] =>
        some (.tuple ⟨[]⟩, [⟨polyC r0 r1 (foldP (num3 h0 h1 h2 * (r0 + 18446744073709551616 * r1))), g, e, true⟩], [])
      | _, _ => none
    C := fun args os => match os with
      | [⟨[.int .u64 r0, .int .u64 r1, .int .u64 h0, .int .u64 h1, .int .u64 h2], _, _, _⟩] => [(polyOk r0 r1 h0 h1 h2, true)]
      | _ => [] }

theorem pmulSum_sound {P : Program} {M : Mem} {f : FuncId} {fn : Func} (hf : P.funcs[f]? = some fn) (hn : (fn.name == "runtime.NumGoroutine") = false) (hb : fn.body.isSome = true)
    (h : ∀ (r0 r1 h0 h1 h2 : Int) (g : Bool) (e : Nat), Held (m4Pins r0 r1 h0 h1 h2 ++ mulRawPins (m4 r0 r1 h0 h1 h2)) → ACalls P M f [.pointer (some ⟨0, 0, some 5⟩)] [⟨[.int .u64 r0, .int .u64 r1, .int .u64 h0, .int .u64 h1, .int .u64 h2], g, e, true⟩]
      (.tuple ⟨[]⟩) [⟨mulRaw r0 r1 (m4 r0 r1 h0 h1 h2), g, e, true⟩] []) : (pmulSum f).SoundC P M := by
  refine sumC_sound hf hn hb fun args os v os' ns hs hp => ?_
  simp only [pmulSum] at hs hp ⊢
  split at hs
  · rename_i r0 r1 h0 h1 h2 g e
    cases hs
    refine ⟨?_, fun h => by cases h⟩
    have hc : polyOk r0 r1 h0 h1 h2 = true := hp (polyOk r0 r1 h0 h1 h2, true) (List.Mem.head _)
    obtain ⟨p1, e0, e1, e2, e3, x0, x1⟩ := m4_ok hc
    obtain ⟨hm, hh⟩ := mulRaw_ok (r0 := r0) (r1 := r1) e0 e1 e2 e3 x0 x1
    have := h r0 r1 h0 h1 h2 g e (fun x hx => by
      rcases List.mem_append.1 hx with hx | hx
      · exact p1 x hx
      · exact hh x hx)
    rw [hm] at this
    exact this
  · cases hs

/-! ### One piece -/
/-- The piece's seventeen bytes. -/
def fullL (cells : List Value) (f n : Nat) : List Value := (List.range 17).map fun i => bif Nat.blt i n then atC ((cells.drop f).take n) i else bif Nat.beq i n then .int .u8 1 else .int .u8 0

/-- The number of a piece. -/
def blkN (cells : List Value) (f n : Nat) : Int := val 256 (fun i => wd cells (f + i)) n + 256 ^ n

def pieceB (cells : List Value) (f s n : Nat) : Bool := decide (cells.length = s) && (decide (f + n ≤ s) && (List.range n).all fun i => isI .u8 (atC cells (f + i)) && hasB .u8 (wd cells (f + i)))

def pieceSum (f : FuncId) : Sum :=
  { f := f, ro := false
    S := fun args os => match args, os with
      | [.pointer (some ⟨0, 0, some 5⟩), .slice (some ⟨1, f1, some s⟩) n c], [⟨[.int .u64 r0, .int .u64 r1, .int .u64 h0, .int .u64 h1, .int .u64 h2], g, e, true⟩, ⟨cells, true, 1, true⟩] =>
        if Nat.blt 0 n && Nat.ble n 16 then some (.tuple ⟨[]⟩, [⟨polyC r0 r1 (foldP ((num3 h0 h1 h2 + blkN cells f1 n) * (r0 + 18446744073709551616 * r1))), g, e, true⟩, ⟨cells, true, 1, true⟩], []) else none
      | _, _ => none
    C := fun args os => match args, os with
      | [_, .slice (some ⟨1, f1, some s⟩) n c], [⟨[.int .u64 r0, .int .u64 r1, .int .u64 h0, .int .u64 h1, .int .u64 h2], _, _, _⟩, ⟨cells, _, _, _⟩] => [(polyOk r0 r1 h0 h1 h2 && decide (h2 ≤ 5), true), (pieceB cells f1 s n, true)]
      | _, _ => [] }

/-- What a piece asks for. -/
def w0 (cells : List Value) (f n : Nat) : Int := val 256 (fun i => wd (fullL cells f n) (0 + i)) 8
def w1 (cells : List Value) (f n : Nat) : Int := val 256 (fun i => wd (fullL cells f n) (8 + i)) 8
def pa0 (h0 : Int) (cells : List Value) (f n : Nat) : Int := h0 + w0 cells f n + 0
def pa1 (h0 h1 : Int) (cells : List Value) (f n : Nat) : Int := h1 + w1 cells f n + pa0 h0 cells f n / 18446744073709551616
def pa2 (h0 h1 h2 : Int) (cells : List Value) (f n : Nat) : Int := IntKind.u64.wrap (h2 + IntKind.u64.wrap (pa1 h0 h1 cells f n / 18446744073709551616 + IntKind.u64.wrap (wd (fullL cells f n) 16)))

def piecePins (r0 r1 h0 h1 h2 : Int) (cells : List Value) (f n : Nat) : Pins :=
  [(eightR (fullL cells f n) 0 17, true), (Nat.ble 8 17, true), (addB h0 (w0 cells f n) 0, true), (eightR (fullL cells f n) 8 17, true), (Nat.ble 8 9, true), (addB h1 (w1 cells f n) (pa0 h0 cells f n / 18446744073709551616), true),
   (polyOk r0 r1 (pa0 h0 cells f n % 18446744073709551616) (pa1 h0 h1 cells f n % 18446744073709551616) (pa2 h0 h1 h2 cells f n), true)]
def pieceRaw (r0 r1 h0 h1 h2 : Int) (cells : List Value) (f n : Nat) : List Value :=
  polyC r0 r1 (foldP (num3 (pa0 h0 cells f n % 18446744073709551616) (pa1 h0 h1 cells f n % 18446744073709551616) (pa2 h0 h1 h2 cells f n) * (r0 + 18446744073709551616 * r1)))

theorem wd_atC {l : List Value} {i : Nat} {k : IntKind} (h : isI k (atC l i) = true) : atC l i = .int k (wd l i) := isI_eq h

theorem full_eq {cells : List Value} {f s n : Nat} (h : pieceB cells f s n = true) (hn : n ≤ 16) : fullL cells f n = cellsI .u8 17 (fun i => bif Nat.blt i n then wd cells (f + i) else bif Nat.beq i n then 1 else 0) := by
  simp only [pieceB, Bool.and_eq_true, decide_eq_true_eq, List.all_eq_true, List.mem_range] at h
  obtain ⟨h1, h2, h3⟩ := h
  unfold fullL cellsI
  apply List.map_congr_left
  intro i hi
  have hi := List.mem_range.1 hi
  cases hb : Nat.blt i n with
  | true =>
    have hl := Nat.blt_eq.mp hb
    simp only [hb, cond_true]
    have := (h3 i hl).1
    rw [← wd_atC this]
    simp [atC, List.getElem?_take, hl]
  | false =>
    simp only [hb, cond_false]
    cases Nat.beq i n <;> rfl

theorem full_range {cells : List Value} {f s n : Nat} (h : pieceB cells f s n = true) : ∀ i, IntKind.u8.has ((fun i => bif Nat.blt i n then wd cells (f + i) else bif Nat.beq i n then (1 : Int) else 0) i) := by
  simp only [pieceB, Bool.and_eq_true, decide_eq_true_eq, List.all_eq_true, List.mem_range] at h
  obtain ⟨h1, h2, h3⟩ := h
  intro i
  cases hb : Nat.blt i n with
  | true =>
    have hl := Nat.blt_eq.mp hb
    simp only [hb, cond_true]
    exact hasB_iff.1 (h3 i hl).2
  | false =>
    simp only [hb, cond_false]
    cases Nat.beq i n
    · exact ⟨by decide, by decide⟩
    · exact ⟨by decide, by decide⟩

theorem blk_val (x : Nat → Int) {n : Nat} (hn : n ≤ 16) : val 256 (fun i => bif Nat.blt i n then x i else bif Nat.beq i n then (1 : Int) else 0) 17 = val 256 x n + 256 ^ n := by
  have key : ∀ m, n < m → val 256 (fun i => bif Nat.blt i n then x i else bif Nat.beq i n then (1 : Int) else 0) m = val 256 x n + 256 ^ n := by
    intro m
    induction m with
    | zero => intro h; omega
    | succ m ih =>
      intro h
      simp only [val]
      by_cases hm : m = n
      · subst hm
        have : Nat.blt m m = false := by rw [Bool.eq_false_iff]; exact fun e => by have := Nat.blt_eq.mp e; omega
        rw [this, Nat.beq_refl]
        simp only [cond_false, cond_true, Int.one_mul]
        congr 1
        exact val_congr fun i hi => by
          have : Nat.blt i m = true := Nat.blt_eq.mpr hi
          rw [this]; rfl
      · rw [ih (by omega)]
        have h1 : Nat.blt m n = false := by rw [Bool.eq_false_iff]; exact fun e => by have := Nat.blt_eq.mp e; omega
        have h2 : Nat.beq m n = false := by rw [Bool.eq_false_iff]; exact fun e => hm (Nat.eq_of_beq_eq_true e)
        rw [h1, h2]
        simp
  exact key 17 (by omega)

theorem four_c {k : Nat → Int} {n f : Nat} (h : f + 4 ≤ n) : four (cellsI .u8 n k) f n = true := by
  have a : ∀ i, i < n → isI .u8 (atC (cellsI .u8 n k) i) = true := fun i hi => by simp [atC, cellsI, hi, isI]
  simp only [four, cellsI_length, Nat.beq_refl, a f (by omega), a (f + 1) (by omega), a (f + 2) (by omega), a (f + 3) (by omega), Bool.and_self]
theorem eight_c {k : Nat → Int} {n f : Nat} (h : f + 8 ≤ n) (hk : ∀ i, IntKind.u8.has (k i)) : eightR (cellsI .u8 n k) f n = true := by
  simp only [eightR, four_c (k := k) (show f + 4 ≤ n by omega), four_c (k := k) (show f + 4 + 4 ≤ n by omega), Bool.true_and, List.all_eq_true, List.mem_range]
  intro i hi
  rw [wd_cellsI (by omega)]
  exact hasB_iff.2 (hk _)

theorem piece_ok {r0 r1 h0 h1 h2 : Int} {cells : List Value} {f s n : Nat} (hp : polyOk r0 r1 h0 h1 h2 = true) (h5 : h2 ≤ 5) (hb : pieceB cells f s n = true) (hn : n ≤ 16) :
    pieceRaw r0 r1 h0 h1 h2 cells f n = polyC r0 r1 (foldP ((num3 h0 h1 h2 + blkN cells f n) * (r0 + 18446744073709551616 * r1))) ∧ Held (piecePins r0 r1 h0 h1 h2 cells f n) := by
  obtain ⟨⟨a1, a2⟩, ⟨b1, b2⟩, c, d, e1, e2⟩ := polyOk_iff.1 hp
  obtain ⟨c1, c2⟩ := has_u64 c
  obtain ⟨d1, d2⟩ := has_u64 d
  have hf := full_eq hb hn
  have hr := full_range hb
  generalize hx : (fun i => bif Nat.blt i n then wd cells (f + i) else bif Nat.beq i n then (1 : Int) else 0) = x at *
  have hv : val 256 x 17 = blkN cells f n := by rw [← hx]; exact blk_val (fun i => wd cells (f + i)) hn
  have e8 : (256 : Int) ^ 8 = 18446744073709551616 := by decide
  have s1 : val 256 x 17 = val 256 x 8 + 18446744073709551616 * (val 256 (fun i => x (8 + i)) 8 + 18446744073709551616 * x 16) := by
    rw [show 17 = 8 + 9 from rfl, val_split, e8, show 9 = 8 + 1 from rfl, val_split, e8]
    have : val 256 (fun i => x (8 + (8 + i))) 1 = x 16 := by simp [val]
    rw [this]
  have q0 : w0 cells f n = val 256 x 8 := by
    unfold w0
    rw [hf]
    exact val_congr fun i hi => by rw [wd_cellsI (by omega), Nat.zero_add]
  have q1 : w1 cells f n = val 256 (fun i => x (8 + i)) 8 := by
    unfold w1
    rw [hf]
    exact val_congr fun i hi => by rw [wd_cellsI (by omega)]
  have q2 : wd (fullL cells f n) 16 = x 16 := by rw [hf, wd_cellsI (by omega)]
  have r0' := val_range (B := 256) (by decide) (d := x) (n := 8) fun i _ => by have := has_u8 (hr i); omega
  have r1' := val_range (B := 256) (by decide) (d := fun i => x (8 + i)) (n := 8) fun i _ => by have := has_u8 (hr (8 + i)); omega
  have hx16 : 0 ≤ x 16 ∧ x 16 ≤ 1 := by
    rw [← hx]
    have hb16 : Nat.blt 16 n = false := by rw [Bool.eq_false_iff]; exact fun e => by have := Nat.blt_eq.mp e; omega
    simp only [hb16, cond_false]
    cases Nat.beq 16 n <;> simp
  rw [e8] at r0' r1'
  rw [← q0, ← q1] at s1
  rw [← q0] at r0'
  rw [← q1] at r1'
  have hsum : num3 (pa0 h0 cells f n % 18446744073709551616) (pa1 h0 h1 cells f n % 18446744073709551616) (pa2 h0 h1 h2 cells f n) = num3 h0 h1 h2 + blkN cells f n ∧ 0 ≤ pa2 h0 h1 h2 cells f n ∧ pa2 h0 h1 h2 cells f n ≤ 7 ∧
      0 ≤ pa0 h0 cells f n / 18446744073709551616 ∧ pa0 h0 cells f n / 18446744073709551616 ≤ 1 := by
    rw [← hv, s1]
    unfold pa2 pa1 pa0 num3
    rw [q2]
    simp only [wrap_u64]
    generalize w0 cells f n = a at *
    generalize w1 cells f n = b at *
    generalize x 16 = t at *
    refine ⟨by omega, by omega, by omega, by omega, by omega⟩
  obtain ⟨g1, g2, g3, g4, g5⟩ := hsum
  refine ⟨by unfold pieceRaw; rw [g1], ?_⟩
  have h64 := fun (n : Int) (p : 0 ≤ n) (q : n ≤ 18446744073709551615) => has64 p q
  unfold piecePins
  refine held_cons (by rw [hf]; exact eight_c (by omega) hr) (held_cons rfl (held_cons (addB_iff.2 ⟨c, h64 _ (by omega) (by omega), by omega, by omega⟩) (held_cons (by rw [hf]; exact eight_c (by omega) hr) (held_cons rfl
    (held_cons (addB_iff.2 ⟨d, h64 _ (by omega) (by omega), g4, g5⟩) (held_one (polyOk_iff.2 ⟨⟨a1, a2⟩, ⟨b1, b2⟩, h64 _ (by omega) (by omega), h64 _ (by omega) (by omega), g2, g3⟩)))))))

end Go.Num

namespace Go.Num
open Go.Ab

structure H3 where
  h0 : Int
  h1 : Int
  h2 : Int
def H3.num (h : H3) : Int := num3 h.h0 h.h1 h.h2
def H3.ok (h : H3) : Prop := IntKind.u64.has h.h0 ∧ IntKind.u64.has h.h1 ∧ 0 ≤ h.h2 ∧ h.h2 ≤ 7

/-- Five added. -/
def g5 (h : H3) : H3 := ⟨(h.h0 + 5 + 0) % 18446744073709551616, (h.h1 + 0 + (h.h0 + 5 + 0) / 18446744073709551616) % 18446744073709551616, IntKind.u64.wrap (h.h2 + (h.h1 + 0 + (h.h0 + 5 + 0) / 18446744073709551616) / 18446744073709551616)⟩
def over (h : H3) : Bool := (g5 h).h2.fdiv (2 ^ 2) != 0
def sub4 (h : H3) : H3 := ⟨(g5 h).h0, (g5 h).h1, IntKind.u64.wrap ((g5 h).h2 - 4)⟩
def rndPins (h : H3) (b : Bool) : Pins := [(addB h.h0 5 0, true), (addB h.h1 0 ((h.h0 + 5 + 0) / 18446744073709551616), true), (over h, b)]

def T2 (h : H3) (a b : Int) (j : Nat) : Int := bif Nat.blt j 8 then (h.h0 + a + 0) % 18446744073709551616 else (h.h1 + b + (h.h0 + a + 0) / 18446744073709551616) % 18446744073709551616
def sumRaw (h : H3) (a b : Int) : List Value := (List.range 16).map fun j => .int .u8 (IntKind.u8.wrap ((T2 h a b j).fdiv (2 ^ (8 * (j % 8)))))
def endPins (h : H3) (cells : List Value) (f s c : Nat) : Pins :=
  [(decide (abounds 16 c (some (.int .i64 0)) (some (.int .i64 8)) none = some (0, 8, c)), true), (eightR cells (f + 0) s, true), (Nat.ble 8 (c - 0), true), (addB h.h0 (W8 (wd cells) (f + 0)) 0, true),
   (decide (abounds 16 c (some (.int .i64 8)) (some (.int .i64 16)) none = some (8, 16, c)), true), (eightR cells (f + 8) s, true), (Nat.ble 8 (c - 8), true), (addB h.h1 (W8 (wd cells) (f + 8)) ((h.h0 + W8 (wd cells) (f + 0) + 0) / 18446744073709551616), true)]

theorem g5_num {h : H3} (ok : h.ok) : (g5 h).num = h.num + 5 ∧ IntKind.u64.has (g5 h).h0 ∧ IntKind.u64.has (g5 h).h1 ∧ 0 ≤ (g5 h).h2 ∧ (g5 h).h2 ≤ 8 := by
  obtain ⟨o1, o2, o3, o4⟩ := ok
  have := has_u64 o1; have := has_u64 o2
  unfold H3.num num3 g5
  simp only [wrap_u64]
  refine ⟨by omega, has64 (by omega) (by omega), has64 (by omega) (by omega), by omega, by omega⟩

theorem over_eq {h : H3} (ok : h.ok) : over h = decide (P130 ≤ h.num) := by
  obtain ⟨g1, g2, g3, g4, g5'⟩ := g5_num ok
  have := has_u64 g2; have := has_u64 g3
  unfold over
  rw [Int.fdiv_eq_ediv_of_nonneg _ (by decide)]
  unfold H3.num num3 at g1
  by_cases hp : P130 ≤ h.num
  · have : (g5 h).h2 / 2 ^ 2 ≠ 0 := by unfold H3.num num3 P130 at hp; omega
    rw [decide_eq_true hp]
    simpa using this
  · have : (g5 h).h2 / 2 ^ 2 = 0 := by unfold H3.num num3 P130 at hp; omega
    rw [decide_eq_false hp, this]
    rfl

theorem sub4_ok {h : H3} (ok : h.ok) (hp : P130 ≤ h.num) : (sub4 h).ok ∧ (sub4 h).num = h.num - P130 := by
  obtain ⟨g1, g2, g3, g4, g5'⟩ := g5_num ok
  have := has_u64 g2; have := has_u64 g3
  unfold H3.num num3 at g1
  have h4 : 4 ≤ (g5 h).h2 := by unfold H3.num num3 P130 at hp; omega
  have e : IntKind.u64.wrap ((g5 h).h2 - 4) = (g5 h).h2 - 4 := by rw [wrap_u64]; omega
  refine ⟨⟨g2, g3, by show 0 ≤ IntKind.u64.wrap _; rw [e]; omega, by show IntKind.u64.wrap _ ≤ 7; rw [e]; omega⟩, ?_⟩
  unfold H3.num num3 sub4
  simp only [e]
  unfold P130
  omega

theorem rnd_held {h : H3} (ok : h.ok) {b : Bool} (hb : over h = b) : Held (rndPins h b) := by
  obtain ⟨o1, o2, o3, o4⟩ := ok
  have := has_u64 o1; have := has_u64 o2
  exact held_cons (addB_iff.2 ⟨o1, ⟨by decide, by decide⟩, by omega, by omega⟩) (held_cons (addB_iff.2 ⟨o2, ⟨by decide, by decide⟩, by omega, by omega⟩) (held_one hb))

def keyB (cells : List Value) (f s : Nat) : Bool := eightR cells f s && eightR cells (f + 8) s

theorem eightR_W8 {cells : List Value} {f s : Nat} (h : eightR cells f s = true) : IntKind.u64.has (W8 (wd cells) f) := by
  simp only [eightR, Bool.and_eq_true, List.all_eq_true, List.mem_range] at h
  have := val_range (B := 256) (by decide) (d := fun i => wd cells (f + i)) (n := 8) fun i hi => by have := has_u8 (hasB_iff.1 (h.2.2 i hi)); omega
  exact has64 this.1 (by unfold W8; omega)

theorem sum_bytes {h : H3} (ok : h.ok) {a b : Int} (ha : IntKind.u64.has a) (hb : IntKind.u64.has b) : sumRaw h a b = cellsI .u8 16 fun i => (h.num + (a + 18446744073709551616 * b)) / 256 ^ i % 256 := by
  obtain ⟨o1, o2, o3, o4⟩ := ok
  have := has_u64 o1; have := has_u64 o2; have := has_u64 ha; have := has_u64 hb
  unfold sumRaw cellsI
  apply List.map_congr_left
  intro j hj
  have hj := List.mem_range.1 hj
  congr 1
  unfold T2 H3.num num3
  cases hlt : Nat.blt j 8 with
  | true =>
    have hl := Nat.blt_eq.mp hlt
    simp only [cond_true]
    rw [byte_of (by omega), show j % 8 = j by omega]
    have hm : ∀ X Y : Int, X % 18446744073709551616 = Y % 18446744073709551616 → X / 256 ^ j % 256 = Y / 256 ^ j % 256 := fun X Y e => by
      rw [← byte_of hl, ← byte_of hl, e]
    exact hm _ _ (by omega)
  | false =>
    have hl : ¬ j < 8 := fun e => by rw [Nat.blt_eq.mpr e] at hlt; cases hlt
    simp only [cond_false]
    rw [byte_of (by omega)]
    have e : (256 : Int) ^ j = 18446744073709551616 * 256 ^ (j % 8) := by
      rw [show (18446744073709551616 : Int) = 256 ^ 8 from by decide, ← Int.pow_add]; congr 1; omega
    rw [e, ← Int.ediv_ediv_of_nonneg (by omega)]
    have hm : ∀ X Y : Int, X % 18446744073709551616 = Y % 18446744073709551616 → X / 256 ^ (j % 8) % 256 = Y / 256 ^ (j % 8) % 256 := fun X Y e => by
      rw [← byte_of (show j % 8 < 8 by omega), ← byte_of (show j % 8 < 8 by omega), e]
    exact hm _ _ (by omega)

def psumSum (f : FuncId) : Sum :=
  { f := f, ro := false
    S := fun args os => match args, os with
      | [.pointer (some ⟨0, 0, some 5⟩), .slice (some ⟨1, f1, some s⟩) 16 c], [⟨[.int .u64 r0, .int .u64 r1, .int .u64 h0, .int .u64 h1, .int .u64 h2], g, e, true⟩, ⟨cells, false, e2, true⟩] =>
        some (.agg ⟨cellsI .u8 16 fun i => (num3 h0 h1 h2 % P130 + (W8 (wd cells) f1 + 18446744073709551616 * W8 (wd cells) (f1 + 8))) / 256 ^ i % 256⟩,
          [⟨if P130 ≤ num3 h0 h1 h2 then [.int .u64 r0, .int .u64 r1, .int .u64 (sub4 ⟨h0, h1, h2⟩).h0, .int .u64 (sub4 ⟨h0, h1, h2⟩).h1, .int .u64 (sub4 ⟨h0, h1, h2⟩).h2] else [.int .u64 r0, .int .u64 r1, .int .u64 h0, .int .u64 h1, .int .u64 h2], g, e, true⟩, ⟨cells, false, e2, true⟩], [])
      | _, _ => none
    C := fun args os => match args, os with
      | [_, .slice (some ⟨1, f1, some s⟩) 16 c], [⟨[.int .u64 r0, .int .u64 r1, .int .u64 h0, .int .u64 h1, .int .u64 h2], _, _, _⟩, ⟨cells, _, _, _⟩] =>
        [(hasB .u64 h0 && (hasB .u64 h1 && (decide (0 ≤ h2) && (decide (h2 ≤ 7) && decide (num3 h0 h1 h2 < 2 * P130)))), true), (keyB cells f1 s && Nat.ble 16 c, true)]
      | _, _ => [] }

end Go.Num

namespace Go.Num
open Go.Ab

def isB (n : Nat) (cells : List Value) : Bool := Nat.beq cells.length n && cells.all (isI .u8)
def rngB (cells : List Value) : Bool := cells.all fun v => hasB .u8 (vint v)

theorem isB_eq {n : Nat} {cells : List Value} (h : isB n cells = true) : cells = cellsI .u8 n (wd cells) := by
  simp only [isB, Bool.and_eq_true] at h
  have := cellsI_wd h.2
  rwa [Nat.eq_of_beq_eq_true h.1] at this

theorem rngB_wd {cells : List Value} (h : rngB cells = true) (i : Nat) : IntKind.u8.has (wd cells i) := by
  unfold wd atC
  by_cases hi : i < cells.length
  · rw [List.getElem?_eq_getElem hi, Option.getD_some]
    exact hasB_iff.1 (List.all_eq_true.1 h _ (List.getElem_mem hi))
  · rw [List.getElem?_eq_none (by omega)]
    exact (show IntKind.u8.has 0 from ⟨by decide, by decide⟩)

theorem rngB_cellsI {n : Nat} {x : Nat → Int} (h : ∀ i, IntKind.u8.has (x i)) : rngB (cellsI .u8 n x) = true := by
  unfold rngB
  rw [List.all_eq_true]
  intro v hv
  simp only [cellsI, List.mem_map] at hv
  obtain ⟨i, _, rfl⟩ := hv
  exact hasB_iff.2 (h i)

def chaSum (f : FuncId) : Sum :=
  { f := f, ro := true
    S := fun args os => match args, os with
      | [.agg ⟨kc⟩, .int .u32 c, .agg ⟨nc⟩], [] => if isB 32 kc && isB 12 nc then some (.agg ⟨blockF (wd kc) c (wd nc)⟩, [], []) else none
      | _, _ => none
    C := fun args _ => match args with
      | [.agg ⟨kc⟩, .int .u32 c, .agg ⟨nc⟩] => [(rngB kc, true), (rngB nc, true)]
      | _ => [] }

theorem chaSum_sound {P : Program} {M : Mem} {f : FuncId} {fn : Func} (hf : P.funcs[f]? = some fn) (hn : (fn.name == "runtime.NumGoroutine") = false) (hb : fn.body.isSome = true)
    (h : ∀ (k : Nat → Int) (c : Int) (n : Nat → Int), (∀ i, IntKind.u8.has (k i)) → (∀ i, IntKind.u8.has (n i)) → ACalls P M f [.agg ⟨cellsI .u8 32 k⟩, .int .u32 c, .agg ⟨cellsI .u8 12 n⟩] [] (.agg ⟨blockF k c n⟩) [] []) : (chaSum f).SoundC P M := by
  refine sumC_sound hf hn hb fun args os v os' ns hs hp => ?_
  simp only [chaSum] at hs hp ⊢
  split at hs
  · rename_i kc c nc
    split at hs
    · rename_i hk
      cases hs
      simp only [Bool.and_eq_true] at hk
      have h1 : rngB kc = true := hp (rngB kc, true) (List.Mem.head _)
      have h2 : rngB nc = true := hp (rngB nc, true) (List.Mem.tail _ (List.Mem.head _))
      have := h (wd kc) c (wd nc) (rngB_wd h1) (rngB_wd h2)
      rw [← isB_eq hk.1, ← isB_eq hk.2] at this
      exact ⟨this, fun _ => rfl⟩
    · cases hs
  · cases hs

def hchaSum (f : FuncId) : Sum :=
  { f := f, ro := true
    S := fun args os => match args, os with
      | [.agg ⟨kc⟩, .agg ⟨nc⟩], [] => if isB 32 kc && isB 16 nc then some (.agg ⟨keyF (wd kc) (wd nc)⟩, [], []) else none
      | _, _ => none
    C := fun args _ => match args with
      | [.agg ⟨kc⟩, .agg ⟨nc⟩] => [(rngB kc, true), (rngB nc, true)]
      | _ => [] }

theorem hchaSum_sound {P : Program} {M : Mem} {f : FuncId} {fn : Func} (hf : P.funcs[f]? = some fn) (hn : (fn.name == "runtime.NumGoroutine") = false) (hb : fn.body.isSome = true)
    (h : ∀ (k n : Nat → Int), (∀ i, IntKind.u8.has (k i)) → (∀ i, IntKind.u8.has (n i)) → ACalls P M f [.agg ⟨cellsI .u8 32 k⟩, .agg ⟨cellsI .u8 16 n⟩] [] (.agg ⟨keyF k n⟩) [] []) : (hchaSum f).SoundC P M := by
  refine sumC_sound hf hn hb fun args os v os' ns hs hp => ?_
  simp only [hchaSum] at hs hp ⊢
  split at hs
  · rename_i kc nc
    split at hs
    · rename_i hk
      cases hs
      simp only [Bool.and_eq_true] at hk
      have h1 : rngB kc = true := hp (rngB kc, true) (List.Mem.head _)
      have h2 : rngB nc = true := hp (rngB nc, true) (List.Mem.tail _ (List.Mem.head _))
      have := h (wd kc) (wd nc) (rngB_wd h1) (rngB_wd h2)
      rw [← isB_eq hk.1, ← isB_eq hk.2] at this
      exact ⟨this, fun _ => rfl⟩
    · cases hs
  · cases hs

theorem key_range {k n : Nat → Int} : rngB (keyF k n) = true := by
  unfold rngB keyF keyW
  rw [List.all_eq_true]
  intro v hv
  obtain ⟨j, _, rfl⟩ := List.mem_map.1 hv
  exact hasB_iff.2 (byteL_range _ _)

theorem block_range {k : Nat → Int} {c : Int} {n : Nat → Int} : rngB (blockF k c n) = true := by
  unfold rngB blockF blockW
  rw [List.all_eq_true]
  intro v hv
  obtain ⟨j, _, rfl⟩ := List.mem_map.1 hv
  exact hasB_iff.2 (byteL_range _ _)

end Go.Num

namespace Go.Num
open Go.Ab

/-- The key's first half, masked. -/
def rK0 (k : Nat → Int) : Int := bits .and .u64 (W8 k 0) 1152921487695413247
def rK1 (k : Nat → Int) : Int := bits .and .u64 (W8 k 8) 1152921487695413244
def rK (k : Nat → Int) : Int := rK0 k + 18446744073709551616 * rK1 k

/-- The residue behind i whole pieces. -/
def accM (r : Int) (cells : List Value) (f : Nat) : Nat → Int
  | 0 => 0
  | i + 1 => (accM r cells f i + blkN cells (f + 16 * i) 16) * r % P130
/-- And behind all of the data. -/
def accA (r : Int) (cells : List Value) (f n : Nat) : Int := if n % 16 = 0 then accM r cells f (n / 16) else (accM r cells f (n / 16) + blkN cells (f + 16 * (n / 16)) (n % 16)) * r % P130

/-- The tag. -/
def tagF (k : Nat → Int) (cells : List Value) (f n : Nat) : List Value := cellsI .u8 16 fun i => (accA (rK k) cells f n + (W8 k 16 + 18446744073709551616 * W8 k 24)) / 256 ^ i % 256

/-- As the program goes. -/
def accI (r : Int) (cells : List Value) (f : Nat) : Nat → Int
  | 0 => 0
  | i + 1 => foldP ((accI r cells f i + blkN cells (f + 16 * i) 16) * r)

/-- Bytes in range lie in this part of an object. -/
def dataB (cells : List Value) (s f n c : Nat) : Bool := decide (cells.length = s) && (decide (f + n ≤ s) && (decide (n ≤ c) && (decide (n ≤ 4611686018427387904) && (List.range n).all fun i => isI .u8 (atC cells (f + i)) && hasB .u8 (wd cells (f + i)))))

theorem dataB_iff {cells : List Value} {s f n c : Nat} : dataB cells s f n c = true ↔ cells.length = s ∧ f + n ≤ s ∧ n ≤ c ∧ n ≤ 4611686018427387904 ∧ ∀ i, i < n → isI .u8 (atC cells (f + i)) = true ∧ hasB .u8 (wd cells (f + i)) = true := by
  simp only [dataB, Bool.and_eq_true, decide_eq_true_eq, List.all_eq_true, List.mem_range]

theorem data_piece {cells : List Value} {s f n c : Nat} (h : dataB cells s f n c = true) {g m : Nat} (h1 : f ≤ g) (h2 : g + m ≤ f + n) : pieceB cells g s m = true := by
  obtain ⟨a, b, d, _, e⟩ := dataB_iff.1 h
  simp only [pieceB, Bool.and_eq_true, decide_eq_true_eq, List.all_eq_true, List.mem_range]
  refine ⟨a, by omega, fun i hi => ?_⟩
  have := e (g + i - f) (by omega)
  rwa [show f + (g + i - f) = g + i by omega] at this

theorem blk_range {cells : List Value} {g s m : Nat} (h : pieceB cells g s m = true) (hm : m ≤ 16) : 0 ≤ blkN cells g m ∧ blkN cells g m ≤ 680564733841876926926749214863536422911 := by
  simp only [pieceB, Bool.and_eq_true, decide_eq_true_eq, List.all_eq_true, List.mem_range] at h
  have := val_range (B := 256) (by decide) (d := fun i => wd cells (g + i)) (n := m) fun i hi => by have := has_u8 (hasB_iff.1 (h.2.2 i hi).2); omega
  have hp : (256 : Int) ^ m ≤ 256 ^ 16 := by
    have : (256 : Int) ^ 16 = 256 ^ m * 256 ^ (16 - m) := by rw [← Int.pow_add]; congr 1; omega
    rw [this]
    have h1 : (1 : Int) ≤ 256 ^ (16 - m) := by have : (0 : Int) < 256 ^ (16 - m) := Int.pow_pos (by decide); omega
    have h0 : (0 : Int) < 256 ^ m := Int.pow_pos (by decide)
    have := Int.mul_le_mul_of_nonneg_left h1 (Int.le_of_lt h0)
    omega
  have e16 : (256 : Int) ^ 16 = 340282366920938463463374607431768211456 := by decide
  have h0 : (0 : Int) < 256 ^ m := Int.pow_pos (by decide)
  unfold blkN
  omega

/-- The masked halves are small. -/
theorem and_le64 {a b : Int} (ha : IntKind.u64.has a) (hb : IntKind.u64.has b) : 0 ≤ bits .and .u64 a b ∧ bits .and .u64 a b ≤ b := by
  obtain ⟨a1, a2⟩ := has_u64 ha
  obtain ⟨b1, b2⟩ := has_u64 hb
  obtain ⟨x, rfl⟩ := Int.eq_ofNat_of_zero_le a1
  obtain ⟨y, rfl⟩ := Int.eq_ofNat_of_zero_le b1
  rw [bits_and_u64_nat _ _ (by omega) (by omega)]
  have := Nat.and_le_right (n := x) (m := y)
  omega

theorem W8_has {k : Nat → Int} (hk : ∀ i, IntKind.u8.has (k i)) (f : Nat) : IntKind.u64.has (W8 k f) := by
  have := W8_range hk f
  exact has64 this.1 (by omega)

theorem rK_range {k : Nat → Int} (hk : ∀ i, IntKind.u8.has (k i)) : (0 ≤ rK0 k ∧ rK0 k < 1152921504606846976) ∧ (0 ≤ rK1 k ∧ rK1 k < 1152921504606846976) := by
  have a := and_le64 (W8_has hk 0) (b := 1152921487695413247) ⟨by decide, by decide⟩
  have b := and_le64 (W8_has hk 8) (b := 1152921487695413244) ⟨by decide, by decide⟩
  unfold rK0 rK1
  omega

/-- A number on the way: below 2^130 + 2^128. -/
def okN (N : Int) : Prop := 0 ≤ N ∧ N < 1361129467683753853853498429727072845824 + 340282366920938463463374607431768211456

theorem okN_words {N : Int} (h : okN N) : IntKind.u64.has (N % 18446744073709551616) ∧ IntKind.u64.has (N / 18446744073709551616 % 18446744073709551616) ∧ 0 ≤ N / 340282366920938463463374607431768211456 ∧ N / 340282366920938463463374607431768211456 ≤ 4 := by
  obtain ⟨h1, h2⟩ := h
  exact ⟨has64 (by omega) (by omega), has64 (by omega) (by omega), by omega, by omega⟩

theorem okN_step {N r0 r1 : Int} (h : okN N) (h0 : 0 ≤ r0 ∧ r0 < 1152921504606846976) (h1 : 0 ≤ r1 ∧ r1 < 1152921504606846976) {b : Int} (hb : 0 ≤ b ∧ b ≤ 680564733841876926926749214863536422911) :
    okN (foldP ((N + b) * (r0 + 18446744073709551616 * r1))) := by
  obtain ⟨n1, n2⟩ := h
  have hr : 0 ≤ r0 + 18446744073709551616 * r1 ∧ r0 + 18446744073709551616 * r1 ≤ 21267647932558653966460912964485513215 := by omega
  have hm : 0 ≤ (N + b) * (r0 + 18446744073709551616 * r1) ∧ (N + b) * (r0 + 18446744073709551616 * r1) ≤ 2722258935367507707706996859454145691648 * 21267647932558653966460912964485513215 :=
    ⟨Int.mul_nonneg (by omega) hr.1, Int.mul_le_mul (by omega) hr.2 hr.1 (by omega)⟩
  exact foldP_lt hm.1 (by omega)

theorem mod_step (a b r p : Int) : (a % p + b) * r % p = (a + b) * r % p := by
  have h := Int.mul_ediv_add_emod a p
  have e : (a + b) * r = (a % p + b) * r + p * (a / p * r) := by
    conv => lhs; rw [← h]
    grind
  rw [e, Int.add_mul_emod_self_left]

theorem acc_mod (r : Int) (cells : List Value) (f : Nat) : ∀ i, accI r cells f i % P130 = accM r cells f i := by
  intro i
  induction i with
  | zero => rfl
  | succ i ih =>
    simp only [accI, accM]
    rw [foldP_mod, ← ih, mod_step]

theorem fold_acc (r : Int) (cells : List Value) (f i : Nat) (b : Int) : foldP ((accI r cells f i + b) * r) % P130 = (accM r cells f i + b) * r % P130 := by
  rw [foldP_mod, ← acc_mod, mod_step]

/-- A piece, with what it asks for as conditions. -/
def pieceSumP (f : FuncId) : Sum :=
  { f := f, ro := false
    S := fun args os => match args, os with
      | [.pointer (some ⟨0, 0, some 5⟩), .slice (some ⟨1, f1, some s⟩) n c], [⟨[.int .u64 r0, .int .u64 r1, .int .u64 h0, .int .u64 h1, .int .u64 h2], g, e, true⟩, ⟨cells, true, 1, true⟩] =>
        some (.tuple ⟨[]⟩, [⟨polyC r0 r1 (foldP ((num3 h0 h1 h2 + blkN cells f1 n) * (r0 + 18446744073709551616 * r1))), g, e, true⟩, ⟨cells, true, 1, true⟩], [])
      | _, _ => none
    C := fun args os => match args, os with
      | [_, .slice (some ⟨1, f1, some s⟩) n c], [⟨[.int .u64 r0, .int .u64 r1, .int .u64 h0, .int .u64 h1, .int .u64 h2], _, _, _⟩, ⟨cells, _, _, _⟩] => [(Nat.blt 0 n && Nat.ble n 16, true), (polyOk r0 r1 h0 h1 h2 && decide (h2 ≤ 5), true), (pieceB cells f1 s n, true)]
      | _, _ => [] }

theorem pieceSumP_sound {P : Program} {M : Mem} {f : FuncId} (h : (pieceSum f).SoundC P M) : (pieceSumP f).SoundC P M := by
  intro args os v os' ns hs hp
  simp only [pieceSumP] at hs hp
  split at hs
  · rename_i f1 s n c r0 r1 h0 h1 h2 g e cells
    cases hs
    have hk : (Nat.blt 0 n && Nat.ble n 16) = true := hp (_, true) (List.Mem.head _)
    refine h [.pointer (some ⟨0, 0, some 5⟩), .slice (some ⟨1, f1, some s⟩) n c] [⟨[.int .u64 r0, .int .u64 r1, .int .u64 h0, .int .u64 h1, .int .u64 h2], g, e, true⟩, ⟨cells, true, 1, true⟩] _ _ _ ?_ ?_
    · simp only [pieceSum, hk, if_true]
    · intro x hx
      exact hp x (List.Mem.tail _ hx)
  · cases hs

def polySum (f : FuncId) : Sum :=
  { f := f, ro := true
    S := fun args os => match args, os with
      | [.agg ⟨K⟩, .slice (some ⟨0, f1, some s⟩) n c], [⟨cells, true, 1, true⟩] => if isB 32 K then some (.agg ⟨tagF (wd K) cells f1 n⟩, [⟨cells, true, 1, true⟩], []) else none
      | _, _ => none
    C := fun args os => match args, os with
      | [.agg ⟨K⟩, .slice (some ⟨0, f1, some s⟩) n c], [⟨cells, _, _, _⟩] => [(rngB K, true), (dataB cells s f1 n c, true)]
      | _, _ => [] }

theorem polySum_sound {P : Program} {M : Mem} {f : FuncId} {fn : Func} (hf : P.funcs[f]? = some fn) (hn : (fn.name == "runtime.NumGoroutine") = false) (hb : fn.body.isSome = true)
    (h : ∀ (k : Nat → Int) (f1 s n c : Nat) (cells : List Value), (∀ i, IntKind.u8.has (k i)) → dataB cells s f1 n c = true → ACalls P M f [.agg ⟨cellsI .u8 32 k⟩, .slice (some ⟨0, f1, some s⟩) n c] [⟨cells, true, 1, true⟩] (.agg ⟨tagF k cells f1 n⟩) [⟨cells, true, 1, true⟩] []) :
    (polySum f).SoundC P M := by
  refine sumC_sound hf hn hb fun args os v os' ns hs hp => ?_
  simp only [polySum] at hs hp ⊢
  split at hs
  · rename_i K f1 s n c cells
    split at hs
    · rename_i hk
      cases hs
      have h1 : rngB K = true := hp (rngB K, true) (List.Mem.head _)
      have h2 : dataB cells s f1 n c = true := hp (dataB cells s f1 n c, true) (List.Mem.tail _ (List.Mem.head _))
      have := h (wd K) f1 s n c cells (rngB_wd h1) h2
      rw [← isB_eq hk] at this
      exact ⟨this, fun _ => rfl⟩
    · cases hs
  · cases hs

end Go.Num

namespace Go.Num
open Go.Ab

/-- The first m digits, then nothing. -/
def ext (d : Nat → Int) (m k : Nat) : Int := bif Nat.blt k m then d k else 0

/-- As the text carries. -/
def c8W (d : Nat → Int) (m : Nat) : Nat → Int
  | 0 => 0
  | k + 1 => IntKind.i64.wrap ((bif Nat.blt k m then IntKind.i64.wrap (c8W d m k + d k) else c8W d m k).tdiv 256)
def d8W (d : Nat → Int) (m k : Nat) : Int := (bif Nat.blt k m then IntKind.i64.wrap (c8W d m k + d k) else c8W d m k).tmod 256

theorem c8W_eq {d : Nat → Int} {m : Nat} (h : ∀ i, i < m → 0 ≤ d i ∧ d i ≤ 1000000000000000) : ∀ k, c8W d m k = car 256 (ext d m) k ∧ 0 ≤ car 256 (ext d m) k ∧ car 256 (ext d m) k ≤ 1000000000000000 ∧ d8W d m k = dig 256 (ext d m) k := by
  have key : ∀ k, c8W d m k = car 256 (ext d m) k → 0 ≤ car 256 (ext d m) k → car 256 (ext d m) k ≤ 1000000000000000 →
      (bif Nat.blt k m then IntKind.i64.wrap (c8W d m k + d k) else c8W d m k) = car 256 (ext d m) k + ext d m k ∧ 0 ≤ ext d m k ∧ ext d m k ≤ 1000000000000000 := fun k h1 h2 h3 => by
    unfold ext
    cases hb : Nat.blt k m with
    | true =>
      have := h k (Nat.blt_eq.mp hb)
      simp only [cond_true]
      rw [h1, w64 (by unfold ext at *; omega) (by unfold ext at *; omega)]
      unfold ext
      exact ⟨rfl, this.1, this.2⟩
    | false =>
      simp only [cond_false]
      rw [h1]
      unfold ext
      exact ⟨by omega, by omega, by omega⟩
  have main : ∀ k, c8W d m k = car 256 (ext d m) k ∧ 0 ≤ car 256 (ext d m) k ∧ car 256 (ext d m) k ≤ 1000000000000000 := by
    intro k
    induction k with
    | zero => exact ⟨rfl, Int.le_refl 0, by show (0 : Int) ≤ _; decide⟩
    | succ k ih =>
      obtain ⟨h1, h2, h3⟩ := ih
      obtain ⟨e, a, b⟩ := key k h1 h2 h3
      have ec : car 256 (ext d m) (k + 1) = (car 256 (ext d m) k + ext d m k) / 256 := rfl
      simp only [c8W]
      rw [e, ec, Int.tdiv_eq_ediv_of_nonneg (by omega), w64 (by omega) (by omega)]
      exact ⟨rfl, by omega, by omega⟩
  intro k
  obtain ⟨h1, h2, h3⟩ := main k
  obtain ⟨e, a, b⟩ := key k h1 h2 h3
  refine ⟨h1, h2, h3, ?_⟩
  unfold d8W
  rw [e, Int.tmod_eq_emod_of_nonneg (by omega)]
  rfl

/-- Digits from 0 to a bound lie there. -/
def digB (cells : List Value) (s m : Nat) : Bool := decide (cells.length = s) && (decide (m ≤ s) && (List.range m).all fun i => isI .i64 (atC cells i) && (decide (0 ≤ wd cells i) && decide (wd cells i ≤ 1000000000000000)))
theorem digB_iff {cells : List Value} {s m : Nat} : digB cells s m = true ↔ cells.length = s ∧ m ≤ s ∧ ∀ i, i < m → isI .i64 (atC cells i) = true ∧ 0 ≤ wd cells i ∧ wd cells i ≤ 1000000000000000 := by
  simp only [digB, Bool.and_eq_true, decide_eq_true_eq, List.all_eq_true, List.mem_range]

def carry8Sum (f : FuncId) : Sum :=
  { f := f, ro := true
    S := fun args os => match args, os with
      | [.slice (some ⟨0, 0, some s⟩) m c, .int .i64 n], [⟨cells, g, e, true⟩] =>
        if (Nat.beq m 40 && decide (n = 40)) || ((Nat.beq m 24 && decide (n = 40)) || (Nat.beq m 17 && decide (n = 16))) then
          some (.slice (some ⟨1, 0, some n.toNat⟩) n.toNat n.toNat, [⟨cells, g, e, true⟩], [⟨cellsI .i64 n.toNat (dig 256 (ext (wd cells) m)), true, 1, true⟩]) else none
      | _, _ => none
    C := fun args os => match args, os with
      | [.slice (some ⟨0, 0, some s⟩) m c, _], [⟨cells, _, _, _⟩] => [(digB cells s m, true)]
      | _, _ => [] }

theorem carry8Sum_sound {P : Program} {M : Mem} {f : FuncId} {fn : Func} (hf : P.funcs[f]? = some fn) (hn : (fn.name == "runtime.NumGoroutine") = false) (hb : fn.body.isSome = true)
    (h : ∀ (m n : Nat) (s c : Nat) (cells : List Value) (g : Bool) (e : Nat), (m = 40 ∧ n = 40) ∨ (m = 24 ∧ n = 40) ∨ (m = 17 ∧ n = 16) → digB cells s m = true →
      ACalls P M f [.slice (some ⟨0, 0, some s⟩) m c, .int .i64 n] [⟨cells, g, e, true⟩] (.slice (some ⟨1, 0, some n⟩) n n) [⟨cells, g, e, true⟩] [⟨cellsI .i64 n (d8W (wd cells) m), true, 1, true⟩]) : (carry8Sum f).SoundC P M := by
  refine sumC_sound hf hn hb fun args os v os' ns hs hp => ?_
  simp only [carry8Sum] at hs hp ⊢
  split at hs
  · rename_i s m c n cells g e
    split at hs
    · rename_i hmn
      cases hs
      have hd : digB cells s m = true := hp (digB cells s m, true) (List.Mem.head _)
      refine ⟨?_, fun _ => rfl⟩
      simp only [Bool.or_eq_true, Bool.and_eq_true, decide_eq_true_eq] at hmn
      have hmn' : (m = 40 ∧ n.toNat = 40) ∨ (m = 24 ∧ n.toNat = 40) ∨ (m = 17 ∧ n.toNat = 16) := by
        rcases hmn with ⟨a, b⟩ | ⟨a, b⟩ | ⟨a, b⟩
        · exact .inl ⟨Nat.eq_of_beq_eq_true a, by omega⟩
        · exact .inr (.inl ⟨Nat.eq_of_beq_eq_true a, by omega⟩)
        · exact .inr (.inr ⟨Nat.eq_of_beq_eq_true a, by omega⟩)
      have := h m n.toNat s c cells g e hmn' hd
      have en : ((n.toNat : Nat) : Int) = n := by omega
      rw [en, cellsI_congr fun i _ => (c8W_eq (m := m) (fun i hi => ((digB_iff.1 hd).2.2 i hi).2) i).2.2.2] at this
      exact this
    · cases hs
  · cases hs

end Go.Num

namespace Go.Num
open Go.Ab

def B40 : Int := 2135987035920910082395021706169552114602704522356652769947041607822219725780640550022962086936576
theorem B40e : (256 : Int) ^ 40 = B40 := by decide

theorem val_ext (d : Nat → Int) {m : Nat} : ∀ {n : Nat}, m ≤ n → val 256 (ext d m) n = val 256 d m := by
  intro n
  induction n with
  | zero => intro h; have : m = 0 := by omega
            subst this; rfl
  | succ n ih =>
    intro h
    by_cases hm : m = n + 1
    · subst hm
      exact val_congr fun i hi => by have : Nat.blt i (n + 1) = true := Nat.blt_eq.mpr hi; simp [ext, this]
    · simp only [val]
      rw [ih (by omega)]
      have : Nat.blt n m = false := by rw [Bool.eq_false_iff]; exact fun e => by have := Nat.blt_eq.mp e; omega
      simp [ext, this]

/-- A quarter of a number, digit by digit. -/
def q4 (y : Nat → Int) (j : Nat) : Int := y j / 4 + y (j + 1) % 4 * 64
theorem q4_val (y : Nat → Int) : ∀ n, 4 * val 256 (q4 y) n = val 256 y n - y 0 % 4 + y n % 4 * 256 ^ n := by
  intro n
  induction n with
  | zero => simp [val]; omega
  | succ n ih =>
    simp only [val]
    rw [Int.mul_add, ih, Int.pow_succ]
    have e : 4 * (y n / 4) = y n - y n % 4 := by omega
    unfold q4
    have : 4 * ((y n / 4 + y (n + 1) % 4 * 64) * 256 ^ n) = (4 * (y n / 4)) * 256 ^ n + y (n + 1) % 4 * (256 ^ n * 256) := by grind
    rw [this, e]
    grind

/-- The digits from place 16 on, 24 of them. -/
def yD (x : Nat → Int) (j : Nat) : Int := bif Nat.blt (16 + j) 40 then x (16 + j) else 0
def lowF (x : Nat → Int) (k : Nat) : Int := (bif Nat.blt k 17 then (bif Nat.beq k 16 then x 16 % 4 else x k) else 0) + 5 * q4 (yD x) k

theorem base_val (x : Nat → Int) : val 256 (fun k => bif Nat.blt k 17 then (bif Nat.beq k 16 then x 16 % 4 else x k) else 0) 24 = val 256 x 16 + x 16 % 4 * 256 ^ 16 := by
  have e : val 256 (fun k => bif Nat.blt k 17 then (bif Nat.beq k 16 then x 16 % 4 else x k) else 0) 24 = val 256 (fun k => bif Nat.beq k 16 then x 16 % 4 else x k) 17 :=
    val_ext (fun k => bif Nat.beq k 16 then x 16 % 4 else x k) (m := 17) (n := 24) (by omega)
  rw [e]
  have e2 : val 256 (fun k => bif Nat.beq k 16 then x 16 % 4 else x k) 17 = val 256 (fun k => bif Nat.beq k 16 then x 16 % 4 else x k) 16 + x 16 % 4 * 256 ^ 16 := rfl
  have e3 : val 256 (fun k => bif Nat.beq k 16 then x 16 % 4 else x k) 16 = val 256 x 16 := val_congr fun i hi => by
    have : Nat.beq i 16 = false := by rw [Bool.eq_false_iff]; exact fun e => by have := Nat.eq_of_beq_eq_true e; omega
    simp [this]
  rw [e2, e3]

theorem lowF_val {x : Nat → Int} (h : Dg 256 40 x) : val 256 (lowF x) 24 = foldP (val 256 x 40) := by
  have e1 : val 256 x (16 + 24) = _ := val_split (m := 16) (n := 24)
  have ey : val 256 (fun i => x (16 + i)) 24 = val 256 (yD x) 24 := val_congr fun i hi => by
    have : Nat.blt (16 + i) 40 = true := Nat.blt_eq.mpr (by omega)
    simp [yD, this]
  have hq := q4_val (yD x) 24
  have y24 : yD x 24 = 0 := rfl
  have y0 : yD x 0 = x 16 := rfl
  rw [y24, y0] at hq
  have e2 : val 256 (lowF x) 24 = val 256 x 16 + x 16 % 4 * 256 ^ 16 + 5 * val 256 (q4 (yD x)) 24 := by
    unfold lowF
    rw [val_add (t := fun k => 5 * q4 (yD x) k), val_smul, base_val]
  have hr := val_range (B := 256) (by decide) (d := x) (n := 16) fun i hi => h i (by omega)
  have hy := val_range (B := 256) (by decide) (d := yD x) (n := 24) fun i hi => by
    have : Nat.blt (16 + i) 40 = true := Nat.blt_eq.mpr (by omega)
    simp only [yD, this, cond_true]
    exact h _ (by omega)
  have e16 : (256 : Int) ^ 16 = 340282366920938463463374607431768211456 := by decide
  -- the higher digits modulo 4 are the lowest of them modulo 4
  have hm : val 256 (yD x) 24 % 4 = x 16 % 4 := by
    have : val 256 (yD x) (1 + 23) = _ := val_split (m := 1) (n := 23)
    rw [val_one, y0] at this
    have e : (256 : Int) ^ 1 = 256 := by decide
    rw [e] at this
    rw [show 24 = 1 + 23 from rfl, this]
    omega
  rw [e2]
  rw [show 40 = 16 + 24 from rfl, e1, ey]
  rw [e16] at *
  unfold foldP
  generalize val 256 (yD x) 24 = Y at *
  generalize val 256 (q4 (yD x)) 24 = Q at *
  generalize val 256 x 16 = Lw at *
  generalize x 16 = t at *
  omega

theorem yD_range {x : Nat → Int} (h : Dg 256 40 x) (j : Nat) : 0 ≤ yD x j ∧ yD x j < 256 := by
  unfold yD
  cases hb : Nat.blt (16 + j) 40 with
  | true => exact h _ (Nat.blt_eq.mp hb)
  | false => simp
theorem q4_range {x : Nat → Int} (h : Dg 256 40 x) (j : Nat) : 0 ≤ q4 (yD x) j ∧ q4 (yD x) j ≤ 300 := by
  have := yD_range h j; have := yD_range h (j + 1)
  unfold q4
  omega
theorem lowF_range {x : Nat → Int} (h : Dg 256 40 x) {k : Nat} (hk : k < 24) : 0 ≤ lowF x k ∧ lowF x k ≤ 2000 := by
  have := q4_range h k; have := h 16 (by omega); have := h k (by omega)
  unfold lowF
  cases Nat.blt k 17 <;> cases Nat.beq k 16 <;> simp only [cond_true, cond_false] <;> omega

theorem foldP_small {X : Int} (h : 0 ≤ X) (h2 : X < 1361129467683753853853498429727072845824 * 2) : 0 ≤ foldP X ∧ foldP X < 1361129467683753853853498429727072845824 + 5 := by unfold foldP; omega

/-- Four times folded, a number below 2^255 is below 2^130. -/
theorem fold4 {X : Int} (h : 0 ≤ X) (h2 : X < 57896044618658097711785492504343953926634992332820282019728792003956564819968) :
    0 ≤ foldP (foldP (foldP (foldP X))) ∧ foldP (foldP (foldP (foldP X))) < 1361129467683753853853498429727072845824 ∧ foldP (foldP (foldP (foldP X))) % P130 = X % P130 := by
  obtain ⟨a1, a2⟩ := foldP_lt h h2
  have b : 0 ≤ foldP (foldP X) ∧ foldP (foldP X) < 1361129467683753853853498429727072845824 := by
    generalize foldP X = Y at *
    unfold foldP
    omega
  have st : ∀ {Y : Int}, 0 ≤ Y → Y < 1361129467683753853853498429727072845824 → foldP Y = Y := fun {Y} p q => by unfold foldP; omega
  rw [st b.1 b.2, st b.1 b.2]
  exact ⟨b.1, b.2, by rw [foldP_mod, foldP_mod]⟩

end Go.Num

namespace Go.Num
open Go.Ab

def liveB : List Nat := [1, 2, 4, 9, 5, 10, 12, 95, 96, 97, 13, 14, 102, 103, 104]
def liveA : List Nat := [1, 2, 4, 9, 5, 10, 12, 95, 96, 97]
def offB (i j : Int) : Nat := 0 + (IntKind.i64.wrap (i + j)).toNat * 1
def mulAt (r t : Nat → Int) (i x j : Int) : Int := IntKind.i64.wrap (vint (atC (cellsI .i64 40 t) (offB i j)) + IntKind.i64.wrap (x * vint (atC (cellsI .i64 16 r) (0 + j.toNat * 1))))
def prodPins (r t : Nat → Int) (i j : Int) : Pins :=
  [(decide (j < 16), true), (inB j 16, true), (ldB .i64 ⟨cellsI .i64 16 r, true, 1, true⟩ 16 (0 + j.toNat * 1), true),
   (inB (IntKind.i64.wrap (i + j)) 40, true), (ldB .i64 ⟨cellsI .i64 40 t, true, 1, true⟩ 40 (offB i j), true), (inB (IntKind.i64.wrap (i + j)) 40, true), (stB ⟨cellsI .i64 40 t, true, 1, true⟩ 40 (offB i j) 1, true)]

theorem wr_cellsI {k : IntKind} {n : Nat} {t : Nat → Int} {i : Nat} {v : Int} (hi : i < n) : wr (cellsI k n t) i [.int k v] = cellsI k n (upd t i v) := by
  apply List.ext_getElem (by rw [wr_length, cellsI_length, cellsI_length])
  intro j h1 h2
  have hj : j < n := by rw [cellsI_length] at h2; exact h2
  have e := atC_wr (l := cellsI k n t) (i := i) (j := j) (v := .int k v) (by rw [cellsI_length]; exact hi)
  have a1 : atC (wr (cellsI k n t) i [.int k v]) j = (wr (cellsI k n t) i [.int k v])[j] := by simp [atC, h1]
  rw [← a1, e]
  by_cases hji : j = i
  · subst hji; simp [cellsI, upd_self]
  · rw [if_neg hji]
    simp [atC, cellsI, hj, upd_ne hji]

theorem offB_eq {i j : Nat} (h : i + j < 40) : offB (i : Int) (j : Int) = i + j := by
  unfold offB
  rw [wrap_i64 (by omega) (by omega)]
  omega

theorem mulAt_eq {r t : Nat → Int} {i j : Nat} {x : Int} (hi : i < 19) (hj : j < 16) : mulAt r t i x j = IntKind.i64.wrap (t (i + j) + IntKind.i64.wrap (x * r j)) := by
  unfold mulAt
  rw [offB_eq (by omega)]
  have e1 : vint (atC (cellsI .i64 40 t) (i + j)) = t (i + j) := wd_cellsI (k := .i64) (x := t) (by omega)
  have e2 : vint (atC (cellsI .i64 16 r) (0 + (j : Int).toNat * 1)) = r j := by
    rw [show 0 + (j : Int).toNat * 1 = j by omega]
    exact wd_cellsI (k := .i64) (x := r) hj
  rw [e1, e2]

theorem ld_cells {n : Nat} {t : Nat → Int} {g : Bool} {e i : Nat} (hi : i < n) : ldB .i64 ⟨cellsI .i64 n t, g, e, true⟩ n i = true := by
  simp [ldB, cellsI_length, atC, cellsI, hi, isI]

theorem prodPins_held {r t : Nat → Int} {i j : Nat} (hi : i < 19) (hj : j < 16) : Held (prodPins r t i j) := by
  have ei : inB (IntKind.i64.wrap ((i : Int) + j)) 40 = true := inB_iff.2 (by rw [wrap_i64 (by omega) (by omega)]; omega)
  refine held_cons (by rw [decide_eq_true_eq]; omega) (held_cons (inB_iff.2 (by omega)) (held_cons ?_ (held_cons ei (held_cons ?_ (held_cons ei (held_one ?_))))))
  · rw [show 0 + (j : Int).toNat * 1 = j by omega]; exact ld_cells hj
  · rw [offB_eq (by omega)]; exact ld_cells (by omega)
  · rw [offB_eq (by omega)]
    simp [stB, cellsI_length]
    omega

theorem convI_const {w : Int → Int} {x y : Nat → Int} {i : Nat} : ∀ {j : Nat} {t : Nat → Int}, convI w (fun _ => x i) y i j t = convI w x y i j t := by
  intro j
  induction j with
  | zero => intro t; rfl
  | succ j ih => intro t; simp only [convI, ih]

theorem convI_congr {w : Int → Int} {x x' y y' : Nat → Int} {i N : Nat} (hx : x i = x' i) : ∀ {j : Nat} {t t' : Nat → Int}, (∀ k, k < j → y k = y' k) → (∀ k, k < N → t k = t' k) → i + j ≤ N + 0 → ∀ k, k < N → convI w x y i j t k = convI w x' y' i j t' k := by
  intro j
  induction j with
  | zero => intro t t' _ ht _ k hk; exact ht k hk
  | succ j ih =>
    intro t t' hy ht hN k hk
    have h1 := ih (fun k hk => hy k (by omega)) ht (by omega)
    simp only [convI, upd]
    rw [h1 k hk, h1 (i + j) (by omega), hx, hy j (by omega)]

def cellB (n : Nat) (A : List Value) : Bool := Nat.beq A.length n && A.all (isI .i64)
theorem cellB_eq {n : Nat} {A : List Value} (h : cellB n A = true) : A = cellsI .i64 n (wd A) := by
  simp only [cellB, Bool.and_eq_true] at h
  have := cellsI_wd h.2
  rwa [Nat.eq_of_beq_eq_true h.1] at this

theorem cellB_cells (n : Nat) (x : Nat → Int) : cellB n (cellsI .i64 n x) = true := by
  unfold cellB
  rw [cellsI_length, Nat.beq_refl, Bool.true_and, List.all_eq_true]
  intro v hv
  simp only [cellsI, List.mem_map, List.mem_range] at hv
  obtain ⟨i, _, rfl⟩ := hv
  rfl

/-- Zeros. -/
def zeroC (n : Nat) (A : List Value) : Bool := cellB n A && (List.range n).all fun k => decide (wd A k = 0)
theorem zeroC_eq {n : Nat} {A : List Value} (h : zeroC n A = true) : A = cellsI .i64 n (fun _ => 0) := by
  simp only [zeroC, Bool.and_eq_true, List.all_eq_true, List.mem_range, decide_eq_true_eq] at h
  have := cellB_eq h.1
  rw [cellsI_congr (fun i hi => h.2 i hi)] at this
  exact this

end Go.Num

namespace Go.Num
open Go.Ab

def liveS : List Nat := [1, 2, 4, 5, 8, 9]
def ob (o : AObj) : Option AObj := some ⟨o.cells, o.grow, o.esz, true⟩
/-- The piece's byte k, as read. -/
def byS (cells : List Value) (f : Nat) (at0 : Int) (k : Nat) : Int := vint (atC cells (f + (IntKind.i64.wrap (at0 + k)).toNat * 1))
def sumS (m : Nat) (acc : Nat → Int) (cells : List Value) (f : Nat) (at0 : Int) (k : Nat) : Int :=
  bif Nat.blt k m then IntKind.i64.wrap (acc k + IntKind.i64.wrap (byS cells f at0 k)) else bif Nat.beq k m then IntKind.i64.wrap (acc k + 1) else bif Nat.blt k 17 then acc k else 0
def prodS (m : Nat) (acc r : Nat → Int) (cells : List Value) (f : Nat) (at0 : Int) : List Value :=
  cellsI .i64 40 (convO IntKind.i64.wrap (wd (cellsI .i64 19 (sumS m acc cells f at0))) (wd (cellsI .i64 16 r)) 16 19)
def newS (m : Nat) (acc r : Nat → Int) (cells : List Value) (f : Nat) (at0 : Int) (k : Nat) : Int := val 256 (wd (prodS m acc r cells f at0)) 40 % P130 / 256 ^ k % 256
def byPins (cells : List Value) (f s n : Nat) (at0 : Int) : Nat → Pins
  | 0 => []
  | m + 1 => byPins cells f s n at0 m ++ [(decide (IntKind.i64.wrap (at0 + m) < n), true), (inB (IntKind.i64.wrap (at0 + m)) n, true), (ldB .u8 ⟨cells, true, 1, true⟩ s (f + (IntKind.i64.wrap (at0 + m)).toNat * 1), true)]
def lastPinS (n : Nat) (at0 : Int) (m : Nat) : Pins := bif Nat.beq m 16 then [] else [(decide (IntKind.i64.wrap (at0 + m) < n), false)]
def stepPins (cells : List Value) (f s n : Nat) (at0 : Int) (m : Nat) (acc r : Nat → Int) : Pins :=
  (decide (at0 < n), true) :: byPins cells f s n at0 m ++ lastPinS n at0 m ++
    [(cellB 16 (cellsI .i64 16 r) && (cellB 19 (cellsI .i64 19 (sumS m acc cells f at0)) && zeroC 40 (cellsI .i64 40 fun _ => 0)), true),
     (digB (prodS m acc r cells f at0) 40 40, true), (decide (val 256 (wd (prodS m acc r cells f at0)) 40 < 57896044618658097711785492504343953926634992332820282019728792003956564819968), true)]

end Go.Num

namespace Go.Num
open Go.Ab

theorem val_digits {V : Int} : ∀ n : Nat, val 256 (fun k => V / 256 ^ k % 256) n = V % 256 ^ n := by
  intro n
  induction n with
  | zero => simp [val]
  | succ n ih =>
    simp only [val]
    rw [ih, Int.pow_succ]
    have hp : (0 : Int) < 256 ^ n := Int.pow_pos (by decide)
    generalize (256 : Int) ^ n = p at *
    have e1 := Int.mul_ediv_add_emod V p
    have e2 := Int.mul_ediv_add_emod (V / p) 256
    have r1 := Int.emod_nonneg V (show p ≠ 0 by omega)
    have r2 := Int.emod_lt_of_pos V hp
    have e : V = (p * 256) * (V / p / 256) + (V % p + V / p % 256 * p) := by
      have : V = p * (256 * (V / p / 256) + V / p % 256) + V % p := by rw [e2, e1]
      grind
    have hr : 0 ≤ V % p + V / p % 256 * p ∧ V % p + V / p % 256 * p < p * 256 := by
      have a : 0 ≤ V / p % 256 ∧ V / p % 256 ≤ 255 := by omega
      have b := Int.mul_nonneg a.1 (Int.le_of_lt hp)
      have c := Int.mul_le_mul_of_nonneg_right a.2 (Int.le_of_lt hp)
      omega
    conv => rhs; rw [e]
    rw [Int.mul_add_emod_self_left, Int.emod_eq_of_lt hr.1 hr.2]

def mS (n i : Nat) : Nat := min 16 (n - 16 * i)
/-- The sum's digits behind i rounds. -/
def accD (r : Nat → Int) (cells : List Value) (f n : Nat) : Nat → (Nat → Int)
  | 0 => fun _ => 0
  | i + 1 => newS (mS n i) (accD r cells f n i) r cells f ((16 * i : Nat) : Int)
def accN (rv : Int) (cells : List Value) (f n : Nat) : Nat → Int
  | 0 => 0
  | i + 1 => (accN rv cells f n i + blkN cells (f + 16 * i) (mS n i)) * rv % P130

theorem byS_eq {cells : List Value} {f i k : Nat} (h : 16 * i + k ≤ 4611686018427387904) : byS cells f ((16 * i : Nat) : Int) k = wd cells (f + 16 * i + k) := by
  unfold byS wd
  rw [wrap_i64 (by omega) (by omega), show f + (((16 * i : Nat) : Int) + k).toNat * 1 = f + 16 * i + k by omega]

theorem sumS_eq {acc : Nat → Int} {cells : List Value} {f i m : Nat} (ha : Dg 256 17 acc) (hm : m ≤ 16) (hi : 16 * i + 16 ≤ 4611686018427387904) (hb : ∀ k, k < m → 0 ≤ wd cells (f + 16 * i + k) ∧ wd cells (f + 16 * i + k) < 256) {k : Nat} (hk : k < 19) :
    sumS m acc cells f ((16 * i : Nat) : Int) k = ext acc 17 k + upd (ext (fun k => wd cells (f + 16 * i + k)) m) m 1 k := by
  simp only [sumS, ext, upd]
  cases h1 : Nat.blt k m with
  | true =>
    have h1' := Nat.blt_eq.mp h1
    have h2 : Nat.beq k m = false := by rw [Bool.eq_false_iff]; exact fun e => by have := Nat.eq_of_beq_eq_true e; omega
    have h3 : Nat.blt k 17 = true := Nat.blt_eq.mpr (by omega)
    have := ha k (by omega); have := hb k h1'
    rw [h2, h3]
    simp only [cond_true, cond_false]
    rw [byS_eq (by omega), wrap_i64 (n := wd cells (f + 16 * i + k)) (by omega) (by omega), wrap_i64 (by omega) (by omega)]
  | false =>
    cases h2 : Nat.beq k m with
    | true =>
      have := Nat.eq_of_beq_eq_true h2
      have h3 : Nat.blt k 17 = true := Nat.blt_eq.mpr (by omega)
      have := ha k (by omega)
      rw [h3]
      simp only [cond_true, cond_false]
      rw [wrap_i64 (by omega) (by omega)]
    | false =>
      simp only [cond_false]
      omega

theorem sumS_range {acc : Nat → Int} {cells : List Value} {f i m : Nat} (ha : Dg 256 17 acc) (hm : m ≤ 16) (hi : 16 * i + 16 ≤ 4611686018427387904) (hb : ∀ k, k < m → 0 ≤ wd cells (f + 16 * i + k) ∧ wd cells (f + 16 * i + k) < 256) {k : Nat} (hk : k < 19) :
    0 ≤ sumS m acc cells f ((16 * i : Nat) : Int) k ∧ sumS m acc cells f ((16 * i : Nat) : Int) k ≤ 512 := by
  rw [sumS_eq ha hm hi hb hk]
  simp only [ext, upd]
  cases h1 : Nat.blt k m with
  | true =>
    have h1' := Nat.blt_eq.mp h1
    have := hb k h1'
    have := ha k (by omega)
    cases Nat.beq k m <;> cases Nat.blt k 17 <;> simp only [cond_true, cond_false] <;> omega
  | false =>
    cases h3 : Nat.blt k 17 with
    | true => have := ha k (Nat.blt_eq.mp h3); cases Nat.beq k m <;> simp only [cond_true, cond_false] <;> omega
    | false => cases Nat.beq k m <;> simp only [cond_true, cond_false] <;> omega

theorem sumS_val {acc : Nat → Int} {cells : List Value} {f i m : Nat} (ha : Dg 256 17 acc) (hm : m ≤ 16) (hi : 16 * i + 16 ≤ 4611686018427387904) (hb : ∀ k, k < m → 0 ≤ wd cells (f + 16 * i + k) ∧ wd cells (f + 16 * i + k) < 256) :
    val 256 (sumS m acc cells f ((16 * i : Nat) : Int)) 19 = val 256 acc 17 + blkN cells (f + 16 * i) m := by
  rw [val_congr fun k hk => sumS_eq ha hm hi hb hk, val_add, val_ext _ (by omega), val_upd (by omega), val_ext _ (by omega)]
  have : ext (fun k => wd cells (f + 16 * i + k)) m m = 0 := by
    have : Nat.blt m m = false := by rw [Bool.eq_false_iff]; exact fun e => by have := Nat.blt_eq.mp e; omega
    simp [ext, this]
  rw [this]
  unfold blkN
  omega

theorem prod_ok {x y : Nat → Int} (hx : ∀ k, k < 19 → 0 ≤ x k ∧ x k ≤ 512) (hy : Dg 256 16 y) :
    (∀ k, 0 ≤ convO IntKind.i64.wrap x y 16 19 k ∧ convO IntKind.i64.wrap x y 16 19 k ≤ 1000000000) ∧ val 256 (convO IntKind.i64.wrap x y 16 19) 40 = val 256 x 19 * val 256 y 16 := by
  have hq : ∀ i j, i < 19 → j < 16 → 0 ≤ x i * y j ∧ x i * y j ≤ 131072 := fun i j hi hj => by
    have a := hx i hi; have b := hy j hj
    have := Int.mul_le_mul a.2 (show y j ≤ 256 by omega) b.1 (by omega)
    exact ⟨Int.mul_nonneg a.1 b.1, by omega⟩
  obtain ⟨h1, h2⟩ := convO_le (w := IntKind.i64.wrap) (M := 19) hq (by omega) (fun a ha hb => wrap_i64 (by omega) (by omega)) (Nat.le_refl 19)
  rw [h1]
  refine ⟨fun k => ?_, convO_val (by omega)⟩
  have := h2 k
  omega

theorem digB_cells {n : Nat} {x : Nat → Int} (h : ∀ i, i < n → 0 ≤ x i ∧ x i ≤ 1000000000) : digB (cellsI .i64 n x) n n = true := digB_iff.2 ⟨cellsI_length _ _ _, Nat.le_refl _, fun i hi => by
  have := h i hi
  rw [wd_cellsI hi]
  refine ⟨by simp [atC, cellsI, hi, isI], this.1, by omega⟩⟩

theorem step_ok {acc r : Nat → Int} {cells : List Value} {f i m : Nat} (ha : Dg 256 17 acc) (hr : Dg 256 16 r) (hm : m ≤ 16) (hi : 16 * i + 16 ≤ 4611686018427387904) (hb : ∀ k, k < m → 0 ≤ wd cells (f + 16 * i + k) ∧ wd cells (f + 16 * i + k) < 256) :
    digB (prodS m acc r cells f ((16 * i : Nat) : Int)) 40 40 = true ∧ val 256 (wd (prodS m acc r cells f ((16 * i : Nat) : Int))) 40 = (val 256 acc 17 + blkN cells (f + 16 * i) m) * val 256 r 16 := by
  have hx : ∀ k, k < 19 → 0 ≤ wd (cellsI .i64 19 (sumS m acc cells f ((16 * i : Nat) : Int))) k ∧ wd (cellsI .i64 19 (sumS m acc cells f ((16 * i : Nat) : Int))) k ≤ 512 := fun k hk => by
    rw [wd_cellsI hk]; exact sumS_range ha hm hi hb hk
  have hy : Dg 256 16 (wd (cellsI .i64 16 r)) := fun k hk => by rw [wd_cellsI hk]; exact hr k hk
  obtain ⟨h1, h2⟩ := prod_ok hx hy
  unfold prodS
  refine ⟨digB_cells fun k _ => h1 k, ?_⟩
  rw [val_congr fun k hk => wd_cellsI hk, h2, val_congr (n := 19) fun k hk => wd_cellsI hk, val_congr (n := 16) fun k hk => wd_cellsI hk, sumS_val ha hm hi hb]

def rBig : Int := 21267647932558653966460912964485513215

theorem new_ok {m : Nat} {acc r : Nat → Int} {cells : List Value} {f : Nat} {at0 : Int} {X : Int} (h : val 256 (wd (prodS m acc r cells f at0)) 40 = X) : Dg 256 17 (newS m acc r cells f at0) ∧ val 256 (newS m acc r cells f at0) 17 = X % P130 := by
  have e : newS m acc r cells f at0 = fun k => X % P130 / 256 ^ k % 256 := funext fun k => by unfold newS; rw [h]
  rw [e, val_digits]
  have e17 : (256 : Int) ^ 17 = 87112285931760246646623899502532662132736 := by decide
  refine ⟨fun k _ => ⟨Int.emod_nonneg _ (by decide), Int.emod_lt_of_pos _ (by decide)⟩, ?_⟩
  rw [e17]
  unfold P130
  omega

theorem accD_ok {r : Nat → Int} {cells : List Value} {s f n c : Nat} (hd : dataB cells s f n c = true) (hr : Dg 256 16 r) (hv : val 256 r 16 ≤ rBig) : ∀ {i : Nat}, 16 * i < n + 16 →
    Dg 256 17 (accD r cells f n i) ∧ val 256 (accD r cells f n i) 17 = accN (val 256 r 16) cells f n i ∧ 0 ≤ accN (val 256 r 16) cells f n i ∧ accN (val 256 r 16) cells f n i < P130 := by
  obtain ⟨_, _, _, hn, hB⟩ := dataB_iff.1 hd
  intro i
  induction i with
  | zero =>
    intro _
    exact ⟨fun k _ => ⟨Int.le_refl 0, by show (0 : Int) < _; decide⟩, val_zero 17, Int.le_refl 0, by show (0 : Int) < _; decide⟩
  | succ i ih =>
    intro hi
    obtain ⟨h1, h2, h3, h4⟩ := ih (by omega)
    have hm : mS n i ≤ 16 := Nat.min_le_left _ _
    have hm2 : mS n i ≤ n - 16 * i := Nat.min_le_right _ _
    have hb : ∀ k, k < mS n i → 0 ≤ wd cells (f + 16 * i + k) ∧ wd cells (f + 16 * i + k) < 256 := fun k hk => by
      have := (hB (16 * i + k) (by omega)).2
      rw [← Nat.add_assoc] at this
      have := has_u8 (hasB_iff.1 this)
      omega
    have hs := step_ok h1 hr hm (i := i) (by omega) hb
    obtain ⟨a, b⟩ := new_ok hs.2
    refine ⟨a, ?_, Int.emod_nonneg _ (by decide), Int.emod_lt_of_pos _ (by decide)⟩
    show val 256 (newS (mS n i) (accD r cells f n i) r cells f ((16 * i : Nat) : Int)) 17 = _
    rw [b, h2]
    rfl

theorem accN_bound {r : Nat → Int} {cells : List Value} {s f n c : Nat} (hd : dataB cells s f n c = true) (hr : Dg 256 16 r) (hv : val 256 r 16 ≤ rBig) {i : Nat} (hi : 16 * i < n) :
    (accN (val 256 r 16) cells f n i + blkN cells (f + 16 * i) (mS n i)) * val 256 r 16 < 57896044618658097711785492504343953926634992332820282019728792003956564819968 := by
  obtain ⟨_, _, h3, h4⟩ := accD_ok hd hr hv (i := i) (by omega)
  have hm2 : mS n i ≤ n - 16 * i := Nat.min_le_right _ _
  have hp := data_piece hd (g := f + 16 * i) (m := mS n i) (by omega) (by omega)
  have hb := blk_range hp (Nat.min_le_left _ _)
  have h0 := (val_range (B := 256) (by decide) hr).1
  have := Int.mul_le_mul (show accN (val 256 r 16) cells f n i + blkN cells (f + 16 * i) (mS n i) ≤ 1361129467683753853853498429727072845819 + 680564733841876926926749214863536422911 by unfold P130 at h4; omega) hv h0 (by omega)
  unfold rBig at this
  omega

theorem accN_full {rv : Int} {cells : List Value} {f n : Nat} : ∀ {i : Nat}, 16 * i ≤ n → accN rv cells f n i = accM rv cells f i := by
  intro i
  induction i with
  | zero => intro _; rfl
  | succ i ih =>
    intro h
    simp only [accN, accM]
    rw [ih (by omega), show mS n i = 16 by unfold mS; omega]

theorem accN_end {rv : Int} {cells : List Value} {f n : Nat} : accN rv cells f n ((n + 15) / 16) = accA rv cells f n := by
  unfold accA
  by_cases h : n % 16 = 0
  · rw [if_pos h, show (n + 15) / 16 = n / 16 by omega, accN_full (by omega)]
  · rw [if_neg h, show (n + 15) / 16 = n / 16 + 1 by omega]
    simp only [accN]
    rw [accN_full (by omega), show mS n (n / 16) = n % 16 by unfold mS; omega]

theorem held_app {p q : Pins} (hp : Held p) (hq : Held q) : Held (p ++ q) := fun x hx => by
  rcases List.mem_append.1 hx with h | h
  · exact hp x h
  · exact hq x h

theorem stepPins_held {acc r : Nat → Int} {cells : List Value} {s f n c i : Nat} (hd : dataB cells s f n c = true) (hi : 16 * i < n) (ha : Dg 256 17 acc) (hr : Dg 256 16 r)
    (hl : (val 256 acc 17 + blkN cells (f + 16 * i) (mS n i)) * val 256 r 16 < 57896044618658097711785492504343953926634992332820282019728792003956564819968) : Held (stepPins cells f s n ((16 * i : Nat) : Int) (mS n i) acc r) := by
  obtain ⟨hlen, hfs, _, hn, hB⟩ := dataB_iff.1 hd
  have hm : mS n i ≤ 16 := Nat.min_le_left _ _
  have hm2 : mS n i ≤ n - 16 * i := Nat.min_le_right _ _
  have hb : ∀ k, k < mS n i → 0 ≤ wd cells (f + 16 * i + k) ∧ wd cells (f + 16 * i + k) < 256 := fun k hk => by
    have := (hB (16 * i + k) (by omega)).2
    rw [← Nat.add_assoc] at this
    have := has_u8 (hasB_iff.1 this)
    omega
  have hs := step_ok ha hr hm (i := i) (by omega) hb
  have key : ∀ m, m ≤ mS n i → Held (byPins cells f s n ((16 * i : Nat) : Int) m) := by
    intro m
    induction m with
    | zero => intro _ x hx; cases hx
    | succ m ih =>
      intro hm'
      have hw : IntKind.i64.wrap (((16 * i : Nat) : Int) + (m : Nat)) = ((16 * i + m : Nat) : Int) := by rw [wrap_i64 (by omega) (by omega)]; omega
      have hat := hB (16 * i + m) (by omega)
      rw [← Nat.add_assoc] at hat
      refine held_app (ih (by omega)) (held_cons ?_ (held_cons (inB_iff.2 ?_) (held_one ?_)))
      · rw [decide_eq_true_eq, hw]; omega
      · rw [hw]; omega
      · rw [hw, show f + ((16 * i + m : Nat) : Int).toNat * 1 = f + 16 * i + m by omega]
        simp only [ldB, hlen, hat.1, decide_true, Bool.and_self]
  have hlast : Held (lastPinS n ((16 * i : Nat) : Int) (mS n i)) := by
    unfold lastPinS
    cases h16 : Nat.beq (mS n i) 16 with
    | true => intro x hx; cases hx
    | false =>
      have : mS n i ≠ 16 := fun e => by rw [e] at h16; cases h16
      have hmn : mS n i = n - 16 * i := by unfold mS at *; omega
      refine held_one ?_
      rw [decide_eq_false_iff_not, wrap_i64 (by omega) (by omega)]
      omega
  unfold stepPins
  refine held_app (held_app (held_cons (by rw [decide_eq_true_eq]; omega) (key _ (Nat.le_refl _))) hlast) (held_cons ?_ (held_cons hs.1 (held_one ?_)))
  · rw [cellB_cells, cellB_cells]
    unfold zeroC
    rw [cellB_cells, Bool.true_and, Bool.true_and, Bool.true_and, List.all_eq_true]
    intro k hk
    rw [List.mem_range] at hk
    rw [decide_eq_true_eq, wd_cellsI hk]
  · rw [decide_eq_true_eq, hs.2]
    exact hl

end Go.Num

namespace Go.Num
open Go.Ab

theorem byte_all {P : Int → Prop} (h : ∀ a : Fin 256, P (a.val : Int)) {x : Int} (hx : IntKind.u8.has x) : P x := by
  obtain ⟨h1, h2⟩ := has_u8 hx
  obtain ⟨n, rfl⟩ := Int.eq_ofNat_of_zero_le h1
  exact h ⟨n, by omega⟩

theorem and248 {x : Int} (hx : IntKind.u8.has x) : bits .and .u8 x 248 = x / 8 * 8 := byte_all (P := fun x => bits .and .u8 x 248 = x / 8 * 8) (by decide +kernel) hx
theorem and127 {x : Int} (hx : IntKind.u8.has x) : bits .and .u8 x 127 = x % 128 := byte_all (P := fun x => bits .and .u8 x 127 = x % 128) (by decide +kernel) hx
theorem and1 {x : Int} (hx : IntKind.u8.has x) : bits .and .u8 x 1 = x % 2 := byte_all (P := fun x => bits .and .u8 x 1 = x % 2) (by decide +kernel) hx
theorem clamp31 {x : Int} (hx : IntKind.u8.has x) : bits .or .u8 (bits .and .u8 x 127) 64 = x % 64 + 64 := byte_all (P := fun x => bits .or .u8 (bits .and .u8 x 127) 64 = x % 64 + 64) (by decide +kernel) hx

/-- The clamped scalar. -/
def clK (k : Nat → Int) (i : Nat) : Int := bif Nat.beq i 0 then k 0 / 8 * 8 else bif Nat.beq i 31 then k 31 % 64 + 64 else k i
/-- The point without its top bit. -/
def clP (p : Nat → Int) (i : Nat) : Int := bif Nat.beq i 31 then p 31 % 128 else p i

theorem clK_range {k : Nat → Int} (hk : ∀ i, IntKind.u8.has (k i)) (i : Nat) : IntKind.u8.has (clK k i) := by
  have h0 := has_u8 (hk 0); have h31 := has_u8 (hk 31); have hi := has_u8 (hk i)
  show 0 ≤ _ ∧ _ ≤ (255 : Int)
  unfold clK
  cases Nat.beq i 0 <;> cases Nat.beq i 31 <;> simp only [cond_true, cond_false] <;> omega
theorem clP_range {k : Nat → Int} (hk : ∀ i, IntKind.u8.has (k i)) (i : Nat) : IntKind.u8.has (clP k i) := by
  have h31 := has_u8 (hk 31); have hi := has_u8 (hk i)
  show 0 ≤ _ ∧ _ ≤ (255 : Int)
  unfold clP
  cases Nat.beq i 31 <;> simp only [cond_true, cond_false] <;> omega

theorem clP_val {p : Nat → Int} (hp : ∀ i, IntKind.u8.has (p i)) : val 256 (clP p) 32 = val 256 p 32 % 57896044618658097711785492504343953926634992332820282019728792003956564819968 := by
  have e1 : val 256 (clP p) 32 = val 256 (clP p) 31 + clP p 31 * 256 ^ 31 := rfl
  have e2 : val 256 p 32 = val 256 p 31 + p 31 * 256 ^ 31 := rfl
  have e3 : val 256 (clP p) 31 = val 256 p 31 := val_congr fun i hi => by
    have : Nat.beq i 31 = false := by rw [Bool.eq_false_iff]; exact fun e => by have := Nat.eq_of_beq_eq_true e; omega
    simp [clP, this]
  have e4 : clP p 31 = p 31 % 128 := rfl
  have hr := val_range (B := 256) (by decide) (d := p) (n := 31) fun i _ => by have := has_u8 (hp i); omega
  have hB : (256 : Int) ^ 31 = 452312848583266388373324160190187140051835877600158453279131187530910662656 := by decide
  have h31 := has_u8 (hp 31)
  rw [hB] at *
  rw [e1, e2, e3, e4]
  omega

theorem bit_clK {k : Nat → Int} (hk : ∀ i, IntKind.u8.has (k i)) {n : Nat} (hn : n ≤ 254) : decide (clK k (n / 8) / 2 ^ (n % 8) % 2 = 1) = bitF k n := by
  have h0 := has_u8 (hk 0); have h31 := has_u8 (hk 31)
  unfold bitF clK
  by_cases hlo : n / 8 = 0
  · have hb : Nat.beq (n / 8) 0 = true := by rw [hlo]; rfl
    rw [hb]
    simp only [cond_true]
    rw [hlo]
    have e : n % 8 = n := by omega
    rw [e]
    rcases (by omega : n = 0 ∨ n = 1 ∨ n = 2 ∨ n = 3 ∨ n = 4 ∨ n = 5 ∨ n = 6 ∨ n = 7) with rfl | rfl | rfl | rfl | rfl | rfl | rfl | rfl <;> simp <;> omega
  · have hb : Nat.beq (n / 8) 0 = false := by rw [Bool.eq_false_iff]; exact fun e => hlo (Nat.eq_of_beq_eq_true e)
    rw [hb]
    simp only [cond_false]
    rw [if_neg (by omega)]
    by_cases hhi : n / 8 = 31
    · have hb : Nat.beq (n / 8) 31 = true := by rw [hhi]; rfl
      rw [hb]
      simp only [cond_true]
      rw [hhi]
      rcases (by omega : n = 248 ∨ n = 249 ∨ n = 250 ∨ n = 251 ∨ n = 252 ∨ n = 253 ∨ n = 254) with rfl | rfl | rfl | rfl | rfl | rfl | rfl <;> simp <;> omega
    · have hb : Nat.beq (n / 8) 31 = false := by rw [Bool.eq_false_iff]; exact fun e => hhi (Nat.eq_of_beq_eq_true e)
      rw [hb, if_neg (by omega)]
      simp only [cond_false]

theorem lad_congr {b c : Nat → Bool} {u : Int} (h : ∀ n, n ≤ 254 → b n = c n) : ∀ n, lad b u n = lad c u n := by
  intro n
  induction n with
  | zero => rfl
  | succ n ih => simp only [lad, ih, h (254 - n) (by omega)]

end Go.Num

namespace Go.Num
open Go.Ab

theorem and_step (x m : Nat) : x &&& m = ((x % 256) &&& (m % 256)) + 256 * ((x / 256) &&& (m / 256)) := by
  have h1 := Nat.and_mod_two_pow (a := x) (b := m) (n := 8)
  have h2 := Nat.and_div_two_pow (a := x) (b := m) (n := 8)
  have e : (2 : Nat) ^ 8 = 256 := by decide
  rw [e] at h1 h2
  omega

theorem nbyte {P : Nat → Prop} (h : ∀ a : Fin 256, P a.val) {x : Nat} (hx : x < 256) : P x := h ⟨x, hx⟩
theorem n255 {x : Nat} (hx : x < 256) : x &&& 255 = x := nbyte (P := fun x => x &&& 255 = x) (by decide +kernel) hx
theorem n15 {x : Nat} (hx : x < 256) : x &&& 15 = x % 16 := nbyte (P := fun x => x &&& 15 = x % 16) (by decide +kernel) hx
theorem n252 {x : Nat} (hx : x < 256) : x &&& 252 = x - x % 4 := nbyte (P := fun x => x &&& 252 = x - x % 4) (by decide +kernel) hx

def w8n (a b c d e f g h : Nat) : Nat := a + 256 * (b + 256 * (c + 256 * (d + 256 * (e + 256 * (f + 256 * (g + 256 * h))))))

theorem and_cons {b x m0 m : Nat} (hb : b < 256) (hm : m0 < 256) : (b + 256 * x) &&& (m0 + 256 * m) = (b &&& m0) + 256 * (x &&& m) := by
  rw [and_step, show (b + 256 * x) % 256 = b by omega, show (b + 256 * x) / 256 = x by omega, show (m0 + 256 * m) % 256 = m0 by omega, show (m0 + 256 * m) / 256 = m by omega]

theorem mask0 {a b c d e f g h : Nat} (ha : a < 256) (hb : b < 256) (hc : c < 256) (hd : d < 256) (he : e < 256) (hf : f < 256) (hg : g < 256) (hh : h < 256) :
    w8n a b c d e f g h &&& 1152921487695413247 = w8n a b c (d % 16) (e - e % 4) f g (h % 16) := by
  rw [show 1152921487695413247 = w8n 255 255 255 15 252 255 255 15 by decide]
  unfold w8n
  rw [and_cons ha (by decide), and_cons hb (by decide), and_cons hc (by decide), and_cons hd (by decide), and_cons he (by decide), and_cons hf (by decide), and_cons hg (by decide), n255 ha, n255 hb, n255 hc, n15 hd, n252 he, n255 hf, n255 hg, n15 hh]
theorem mask1 {a b c d e f g h : Nat} (ha : a < 256) (hb : b < 256) (hc : c < 256) (hd : d < 256) (he : e < 256) (hf : f < 256) (hg : g < 256) (hh : h < 256) :
    w8n a b c d e f g h &&& 1152921487695413244 = w8n (a - a % 4) b c (d % 16) (e - e % 4) f g (h % 16) := by
  rw [show 1152921487695413244 = w8n 252 255 255 15 252 255 255 15 by decide]
  unfold w8n
  rw [and_cons ha (by decide), and_cons hb (by decide), and_cons hc (by decide), and_cons hd (by decide), and_cons he (by decide), and_cons hf (by decide), and_cons hg (by decide), n252 ha, n255 hb, n255 hc, n15 hd, n252 he, n255 hf, n255 hg, n15 hh]

def w8i (a b c d e f g h : Int) : Int := a + 256 * (b + 256 * (c + 256 * (d + 256 * (e + 256 * (f + 256 * (g + 256 * h))))))
theorem val8 (t : Nat → Int) : val 256 t 8 = w8i (t 0) (t 1) (t 2) (t 3) (t 4) (t 5) (t 6) (t 7) := by
  simp only [val, w8i, Int.reducePow]
  omega

theorem and_w8 {a b c d e f g h : Int} (ha : 0 ≤ a ∧ a ≤ 255) (hb : 0 ≤ b ∧ b ≤ 255) (hc : 0 ≤ c ∧ c ≤ 255) (hd : 0 ≤ d ∧ d ≤ 255) (he : 0 ≤ e ∧ e ≤ 255) (hf : 0 ≤ f ∧ f ≤ 255) (hg : 0 ≤ g ∧ g ≤ 255) (hh : 0 ≤ h ∧ h ≤ 255) :
    bits .and .u64 (w8i a b c d e f g h) 1152921487695413247 = w8i a b c (d % 16) (e - e % 4) f g (h % 16) ∧ bits .and .u64 (w8i a b c d e f g h) 1152921487695413244 = w8i (a - a % 4) b c (d % 16) (e - e % 4) f g (h % 16) := by
  obtain ⟨a, rfl⟩ := Int.eq_ofNat_of_zero_le ha.1
  obtain ⟨b, rfl⟩ := Int.eq_ofNat_of_zero_le hb.1
  obtain ⟨c, rfl⟩ := Int.eq_ofNat_of_zero_le hc.1
  obtain ⟨d, rfl⟩ := Int.eq_ofNat_of_zero_le hd.1
  obtain ⟨e, rfl⟩ := Int.eq_ofNat_of_zero_le he.1
  obtain ⟨f, rfl⟩ := Int.eq_ofNat_of_zero_le hf.1
  obtain ⟨g, rfl⟩ := Int.eq_ofNat_of_zero_le hg.1
  obtain ⟨h, rfl⟩ := Int.eq_ofNat_of_zero_le hh.1
  have e0 : w8i (a : Int) b c d e f g h = ((w8n a b c d e f g h : Nat) : Int) := by unfold w8i w8n; omega
  have hw : w8n a b c d e f g h < 18446744073709551616 := by unfold w8n; omega
  rw [e0]
  constructor
  · rw [show (1152921487695413247 : Int) = ((1152921487695413247 : Nat) : Int) from rfl, bits_and_u64_nat _ _ hw (by omega), mask0 (by omega) (by omega) (by omega) (by omega) (by omega) (by omega) (by omega) (by omega)]
    unfold w8i w8n
    omega
  · rw [show (1152921487695413244 : Int) = ((1152921487695413244 : Nat) : Int) from rfl, bits_and_u64_nat _ _ hw (by omega), mask1 (by omega) (by omega) (by omega) (by omega) (by omega) (by omega) (by omega) (by omega)]
    unfold w8i w8n
    omega

/-- A digit of r, as the text takes it. -/
def rDig (k : Nat → Int) (i : Nat) : Int :=
  bif Nat.beq (i % 4) 3 then (IntKind.i64.wrap (k i)).tmod 16 else bif Nat.beq (i % 4) 0 && Nat.blt 0 i then IntKind.i64.wrap (IntKind.i64.wrap (k i) - (IntKind.i64.wrap (k i)).tmod 4) else IntKind.i64.wrap (k i)
def rD (k : Nat → Int) (i : Nat) : Int := bif Nat.beq (i % 4) 3 then k i % 16 else bif Nat.beq (i % 4) 0 && Nat.blt 0 i then k i - k i % 4 else k i

theorem rDig_eq {k : Nat → Int} (hk : ∀ i, IntKind.u8.has (k i)) (i : Nat) : rDig k i = rD k i ∧ 0 ≤ rD k i ∧ rD k i < 256 := by
  have h := has_u8 (hk i)
  unfold rDig rD
  rw [wrap_i64 (n := k i) (by omega) (by omega)]
  cases Nat.beq (i % 4) 3 <;> cases Nat.beq (i % 4) 0 && Nat.blt 0 i <;> simp only [cond_true, cond_false]
  · exact ⟨trivial, by omega⟩
  · rw [Int.tmod_eq_emod_of_nonneg h.1, wrap_i64 (by omega) (by omega)]; exact ⟨rfl, by omega⟩
  · rw [Int.tmod_eq_emod_of_nonneg h.1]; exact ⟨rfl, by omega⟩
  · rw [Int.tmod_eq_emod_of_nonneg h.1]; exact ⟨rfl, by omega⟩

theorem rDig_val {k : Nat → Int} (hk : ∀ i, IntKind.u8.has (k i)) : Dg 256 16 (rDig k) ∧ val 256 (rDig k) 16 = rK k := by
  refine ⟨fun i _ => by rw [(rDig_eq hk i).1]; exact (rDig_eq hk i).2, ?_⟩
  rw [val_congr fun i _ => (rDig_eq hk i).1]
  have hs : val 256 (rD k) (8 + 8) = _ := val_split (m := 8) (n := 8)
  rw [show 16 = 8 + 8 from rfl, hs, val8, val8]
  have u := fun i => has_u8 (hk i)
  unfold rK rK0 rK1 W8
  rw [val8, val8]
  rw [(and_w8 (u _) (u _) (u _) (u _) (u _) (u _) (u _) (u _)).1, (and_w8 (u _) (u _) (u _) (u _) (u _) (u _) (u _) (u _)).2, show (256 : Int) ^ 8 = 18446744073709551616 by decide]
  rfl

/-- The tag's bytes ahead of their carrying. -/
def endS (acc k : Nat → Int) (i : Nat) : Int := bif Nat.blt i 16 then IntKind.i64.wrap (acc i + IntKind.i64.wrap (k (16 + i))) else acc i

theorem endS_eq {acc k : Nat → Int} (ha : Dg 256 17 acc) (hk : ∀ i, IntKind.u8.has (k i)) {i : Nat} (hi : i < 17) : endS acc k i = acc i + ext (fun i => k (16 + i)) 16 i ∧ 0 ≤ endS acc k i ∧ endS acc k i ≤ 512 := by
  have := ha i hi; have := has_u8 (hk (16 + i))
  simp only [endS, ext]
  cases Nat.blt i 16 <;> simp only [cond_true, cond_false]
  · exact ⟨by omega, by omega, by omega⟩
  · rw [wrap_i64 (n := k (16 + i)) (by omega) (by omega), wrap_i64 (by omega) (by omega)]
    exact ⟨rfl, by omega, by omega⟩

theorem endS_bytes {acc k : Nat → Int} {A : Int} (ha : Dg 256 17 acc) (hk : ∀ i, IntKind.u8.has (k i)) (hA : val 256 acc 17 = A) (h0 : 0 ≤ A ∧ A < P130) {t : Nat → Int} (ht : ∀ i, i < 17 → t i = endS acc k i) {i : Nat} (hi : i < 16) :
    IntKind.u8.wrap (dig 256 (ext t 17) i) = (A + (W8 k 16 + 18446744073709551616 * W8 k 24)) / 256 ^ i % 256 := by
  have hd := dig_range (B := 256) (by decide) (ext t 17) i
  have e1 : IntKind.u8.wrap (dig 256 (ext t 17) i) = dig 256 (ext t 17) i := by rw [wrap_u8]; omega
  rw [e1, val_digit (B := 256) (by decide) (d := dig 256 (ext t 17)) (k := i) (n := 17) (by omega) fun i _ => dig_range (by decide) _ _]
  have hv : val 256 (ext t 17) 17 = A + (W8 k 16 + 18446744073709551616 * W8 k 24) := by
    rw [val_ext _ (Nat.le_refl _), val_congr fun i hi => (ht i hi).trans (endS_eq ha hk hi).1, val_add, hA, val_ext _ (by omega)]
    have hs : val 256 (fun i => k (16 + i)) (8 + 8) = _ := val_split (m := 8) (n := 8)
    rw [show 16 = 8 + 8 from rfl, hs, show (256 : Int) ^ 8 = 18446744073709551616 by decide]
    have e : val 256 (fun i => k (16 + (8 + i))) 8 = W8 k 24 := val_congr fun i _ => by rw [show 16 + (8 + i) = 24 + i by omega]
    rw [e]
    rfl
  have w1 := W8_range hk 16
  have w2 := W8_range hk 24
  have e17 : (256 : Int) ^ 17 = 87112285931760246646623899502532662132736 := by decide
  have h1 : A < 1361129467683753853853498429727072845819 := h0.2
  have hm : (A + (W8 k 16 + 18446744073709551616 * W8 k 24)) % 87112285931760246646623899502532662132736 = A + (W8 k 16 + 18446744073709551616 * W8 k 24) := Int.emod_eq_of_lt (by omega) (by omega)
  rw [(car_out (B := 256) (by decide)).2, hv, e17, hm]

end Go.Num

namespace Go.Num
open Go.Ab

def liveT : List Nat := [0, 3, 4]
/-- Bytes of the read-only memory. -/
def roN (M : Mem) (b off : Nat) (i : Nat) : Int := vint ((M b (off + i)).getD undef)
def roAll (M : Mem) (b off n : Nat) : Bool := decide (n ≤ 281474976710656) && (List.range n).all fun i => roB .u8 M b (off + i)
theorem roAll_iff {M : Mem} {b off n : Nat} : roAll M b off n = true ↔ n ≤ 281474976710656 ∧ ∀ i, i < n → roB .u8 M b (off + i) = true := by
  simp only [roAll, Bool.and_eq_true, decide_eq_true_eq, List.all_eq_true, List.mem_range]
/-- The first i are copied. -/
def cpF (x : Nat → Int) (i j : Nat) : Int := bif Nat.blt j i then x j else 0
theorem cpF_step {x : Nat → Int} {n i : Nat} (hi : i < n) : wr (cellsI .u8 n (cpF x i)) i [.int .u8 (x i)] = cellsI .u8 n (cpF x (i + 1)) := by
  rw [wr_cellsI hi]
  refine cellsI_congr fun j hj => ?_
  by_cases h : j = i
  · subst h
    have : Nat.blt j (j + 1) = true := Nat.blt_eq.mpr (by omega)
    simp [upd_self, cpF, this]
  · rw [upd_ne h]
    have : Nat.blt j (i + 1) = Nat.blt j i := by
      cases h1 : Nat.blt j i with
      | true => have := Nat.blt_eq.mp h1; exact Nat.blt_eq.mpr (by omega)
      | false =>
        rw [Bool.eq_false_iff]
        intro e
        have := Nat.blt_eq.mp e
        rw [Bool.eq_false_iff] at h1
        exact h1 (Nat.blt_eq.mpr (by omega))
    simp [cpF, this]
theorem cpF_all {x : Nat → Int} {n : Nat} : cellsI .u8 n (cpF x n) = cellsI .u8 n x := cellsI_congr fun j hj => by
  have : Nat.blt j n = true := Nat.blt_eq.mpr hj
  simp [cpF, this]
theorem cpF_zero {x : Nat → Int} {n : Nat} : zcells [.int .u8 0] n = cellsI .u8 n (cpF x 0) := by
  rw [zcells_one]
  apply List.ext_getElem (by simp [cellsI])
  intro i h1 h2
  have hb : Nat.blt i 0 = false := by rw [Bool.eq_false_iff]; exact fun e => absurd (Nat.blt_eq.mp e) (Nat.not_lt_zero i)
  simp [cellsI, cpF, hb]

def isZ (n : Nat) (x : List Value) : Bool := Nat.beq x.length n && x.all fun v => isI .u8 v && decide (vint v = 0)
theorem isZ_eq {n : Nat} {x : List Value} (h : isZ n x = true) (y : Nat → Int) : x = cellsI .u8 n (cpF y 0) := by
  simp only [isZ, Bool.and_eq_true, List.all_eq_true, decide_eq_true_eq] at h
  have hl := Nat.eq_of_beq_eq_true h.1
  apply List.ext_getElem (by simp [cellsI, hl])
  intro i h1 h2
  obtain ⟨a, b⟩ := h.2 _ (List.getElem_mem h1)
  rw [isI_eq a, b]
  have hb : Nat.blt i 0 = false := by rw [Bool.eq_false_iff]; exact fun e => absurd (Nat.blt_eq.mp e) (Nat.not_lt_zero i)
  simp [cellsI, cpF, hb]
theorem isZ_zero (n : Nat) : isZ n (zcells [.int .u8 0] n) = true := by
  rw [zcells_one]
  unfold isZ
  rw [List.length_replicate, Nat.beq_refl, Bool.true_and, List.all_eq_true]
  intro v hv
  rw [(List.mem_replicate.1 hv).2]
  rfl

/-- Bytes that lie in an object. -/
def byAll (cells : List Value) (s f n c : Nat) : Bool := decide (n ≤ 281474976710656) && dataB cells s f n c

def toSum (M : Mem) (fn : FuncId) : Sum :=
  { f := fn, ro := true
    S := fun args os => match args, os with
      | [.slice none 0 0], [] => some (.slice (some ⟨0, 0, some 0⟩) 0 0, [], [⟨[], true, 1, true⟩])
      | [.slice (some ⟨b, off, none⟩) n c], [] => some (.slice (some ⟨0, 0, some n⟩) n n, [], [⟨cellsI .u8 n (roN M b off), true, 1, true⟩])
      | [.slice (some ⟨0, f, some s⟩) n c], [⟨cells, g, e, true⟩] => some (.slice (some ⟨1, 0, some n⟩) n n, [⟨cells, g, e, true⟩], [⟨cellsI .u8 n (fun i => wd cells (f + i)), true, 1, true⟩])
      | _, _ => none
    C := fun args os => match args, os with
      | [.slice (some ⟨b, off, none⟩) n c], [] => [(roAll M b off n, true)]
      | [.slice (some ⟨0, f, some s⟩) n c], [⟨cells, g, e, _⟩] => [(byAll cells s f n c, true)]
      | _, _ => [] }

theorem toSum_sound {P : Program} {M : Mem} {f : FuncId} {fn : Func} (hf : P.funcs[f]? = some fn) (hn : (fn.name == "runtime.NumGoroutine") = false) (hb : fn.body.isSome = true)
    (h0 : ACalls P M f [.slice none 0 0] [] (.slice (some ⟨0, 0, some 0⟩) 0 0) [] [⟨[], true, 1, true⟩])
    (h1 : ∀ b off n c, roAll M b off n = true → ACalls P M f [.slice (some ⟨b, off, none⟩) n c] [] (.slice (some ⟨0, 0, some n⟩) n n) [] [⟨cellsI .u8 n (roN M b off), true, 1, true⟩])
    (h2 : ∀ o s n c cells g e, byAll cells s o n c = true → ACalls P M f [.slice (some ⟨0, o, some s⟩) n c] [⟨cells, g, e, true⟩] (.slice (some ⟨1, 0, some n⟩) n n) [⟨cells, g, e, true⟩] [⟨cellsI .u8 n (fun i => wd cells (o + i)), true, 1, true⟩]) : (toSum M f).SoundC P M := by
  refine sumC_sound hf hn hb fun args os v os' ns hs hp => ?_
  simp only [toSum] at hs hp ⊢
  split at hs
  · cases hs; exact ⟨h0, fun _ => rfl⟩
  · rename_i b off n c
    cases hs
    exact ⟨h1 b off n c (hp (_, true) (List.Mem.head _)), fun _ => rfl⟩
  · rename_i o s n c cells g e
    cases hs
    exact ⟨h2 o s n c cells g e (hp (byAll cells s o n c, true) (List.Mem.head _)), fun _ => rfl⟩
  · cases hs

end Go.Num

