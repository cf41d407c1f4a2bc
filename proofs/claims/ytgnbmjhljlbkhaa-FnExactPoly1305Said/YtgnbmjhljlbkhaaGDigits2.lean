/- Products in digits of 16 bits, and what is added and taken off; the least number in digits.
   Conditions: the digits are in bounds; plain arithmetic. -/
import Derived.Test.YtgnbmjhljlbkhaaGDigits
set_option linter.unusedVariables false
namespace Go.Num
open Go.Ab

/-- The digits of a product ahead of carrying. -/
def lowC (x y : Nat → Int) (k : Nat) : Int := convO id x y 16 16 k + 38 * convO id x y 16 16 (k + 16)

def lowW (x y : Nat → Int) (k : Nat) : Int := IntKind.i64.wrap (convO IntKind.i64.wrap x y 16 16 k + IntKind.i64.wrap (38 * convO IntKind.i64.wrap x y 16 16 (k + 16)))

theorem lowW_eq {x y : Nat → Int} (hx : ∀ i, i < 16 → 0 ≤ x i ∧ x i ≤ 65535) (hy : ∀ i, i < 16 → 0 ≤ y i ∧ y i ≤ 65535) : ∀ k, lowW x y k = lowC x y k ∧ 0 ≤ lowC x y k ∧ lowC x y k ≤ 2700000000000 := fun k => by
  have hq : ∀ i j, i < 16 → j < 16 → 0 ≤ x i * y j ∧ x i * y j ≤ 4294836225 := fun i j hi hj => by
    have a := hx i hi
    have b := hy j hj
    refine ⟨Int.mul_nonneg a.1 b.1, ?_⟩
    have := Int.mul_le_mul a.2 b.2 b.1 (by omega : (0 : Int) ≤ 65535)
    simpa using this
  obtain ⟨h1, h2⟩ := convO_le (w := IntKind.i64.wrap) (M := 16) hq (by omega) (fun a ha hb => w64 (by omega) (by omega)) (Nat.le_refl 16)
  have a := h2 k
  have b := h2 (k + 16)
  unfold lowW lowC
  rw [h1, w64 (n := 38 * convO id x y 16 16 (k + 16)) (by omega) (by omega), w64 (by omega) (by omega)]
  exact ⟨rfl, by omega, by omega⟩

theorem lowC_val (x y : Nat → Int) : ∃ q, val D16 (lowC x y) 16 = val D16 x 16 * val D16 y 16 + pF * q := by
  have h := convO_val (B := D16) (x := x) (y := y) (n := 16) (m := 16) (N := 32) (by omega)
  have e : val D16 (convO id x y 16 16) (16 + 16) = _ := val_split (m := 16) (n := 16)
  rw [D16p] at e
  have s : val D16 (lowC x y) 16 = val D16 (convO id x y 16 16) 16 + 38 * val D16 (fun i => convO id x y 16 16 (16 + i)) 16 := by
    unfold lowC
    rw [val_add, val_smul]
    simp only [Nat.add_comm]
  refine ⟨-2 * val D16 (fun i => convO id x y 16 16 (16 + i)) 16, ?_⟩
  rw [s, ← h, e]
  unfold pF
  omega

def mulD (x y : Nat → Int) : Nat → Int := pass3 (lowC x y)

theorem mulD_dg {x y : Nat → Int} (hx : ∀ i, i < 16 → 0 ≤ x i ∧ x i ≤ 65535) (hy : ∀ i, i < 16 → 0 ≤ y i ∧ y i ≤ 65535) : Dg 65536 16 (mulD x y) :=
  pass3_dg fun i hi => by have := lowW_eq hx hy i; omega

theorem mulD_val (x y : Nat → Int) : ∃ q, val D16 (mulD x y) 16 = val D16 x 16 * val D16 y 16 + pF * q := by
  obtain ⟨q, hq⟩ := lowC_val x y
  obtain ⟨r, hr⟩ := pass3_val (lowC x y)
  exact ⟨q + r, by unfold mulD; rw [hr, hq]; grind⟩

def addD (x y : Nat → Int) : Nat → Int := pass3 fun i => x i + y i
/-- Four times the modulus in digits. -/
def c4 (i : Nat) : Int := bif Nat.beq i 0 then 130996 else 131070
def subD (x y : Nat → Int) : Nat → Int := pass3 fun i => x i + c4 i - y i

theorem c4_val : val D16 c4 16 = 4 * pF := by decide +kernel

theorem val_sub {B : Int} {s t : Nat → Int} {n : Nat} : val B (fun i => s i - t i) n = val B s n - val B t n := by
  have e : (fun i => s i - t i) = fun i => s i + (-1) * t i := funext fun i => by omega
  rw [e, val_add (t := fun i => (-1) * t i), val_smul]
  omega

theorem addD_val (x y : Nat → Int) : ∃ q, val D16 (addD x y) 16 = val D16 x 16 + val D16 y 16 + pF * q := by
  obtain ⟨q, hq⟩ := pass3_val fun i => x i + y i
  exact ⟨q, by unfold addD; rw [hq, val_add]⟩
theorem subD_val (x y : Nat → Int) : ∃ q, val D16 (subD x y) 16 = val D16 x 16 - val D16 y 16 + pF * q := by
  obtain ⟨q, hq⟩ := pass3_val fun i => x i + c4 i - y i
  refine ⟨q + 4, ?_⟩
  unfold subD
  rw [hq, val_sub, val_add (t := c4), c4_val]
  grind

/-- The modulus in digits. -/
def mP (i : Nat) : Int := bif Nat.beq i 0 then 65517 else bif Nat.beq i 15 then 32767 else 65535
theorem mP_val : val D16 mP 16 = pF := by decide +kernel

/-- The modulus taken off, digit by digit. -/
def tkP (x : Nat → Int) (i : Nat) : Int := x i - mP i
theorem tkP_val (x : Nat → Int) : val D16 (tkP x) 16 = val D16 x 16 - pF := by
  have : val D16 (tkP x) 16 = val D16 x 16 - val D16 mP 16 := val_sub
  rw [this, mP_val]

/-- Taken off a number that is at least the modulus. -/
theorem tkP_dig {x : Nat → Int} (h : Dg 65536 16 x) (hp : pF ≤ val D16 x 16) : val D16 (dig D16 (tkP x)) 16 = val D16 x 16 - pF := by
  have hv := val_range (B := D16) (by decide) h
  rw [(car_out (B := D16) (by decide)).2, tkP_val]
  exact Int.emod_eq_of_lt (by omega) (by unfold pF at *; omega)

/-- Into a digit when the modulus is taken off, one or nothing is borrowed. -/
theorem tkP_car {x : Nat → Int} (h : Dg 65536 16 x) : ∀ {i : Nat}, i ≤ 16 → -1 ≤ car D16 (tkP x) i ∧ car D16 (tkP x) i ≤ 0 := by
  intro i
  induction i with
  | zero => intro _; exact ⟨show (-1 : Int) ≤ 0 by decide, Int.le_refl 0⟩
  | succ i ih =>
    intro hi
    obtain ⟨h1, h2⟩ := ih (by omega)
    have hx := h i (by omega)
    have hm : 0 ≤ mP i ∧ mP i ≤ 65535 := by unfold mP; cases Nat.beq i 0 <;> cases Nat.beq i 15 <;> simp
    have e : car D16 (tkP x) (i + 1) = (car D16 (tkP x) i + (x i - mP i)) / 65536 := rfl
    rw [e]
    omega

/-- Reading: two bytes a digit. -/
def rdD (x : Nat → Int) (i : Nat) : Int := x (2 * i) + 256 * x (2 * i + 1)
theorem rdD_val (x : Nat → Int) : ∀ n, val D16 (rdD x) n = val 256 x (2 * n) := by
  intro n
  induction n with
  | zero => rfl
  | succ n ih =>
    rw [show 2 * (n + 1) = 2 * n + 1 + 1 by omega]
    simp only [val]
    rw [ih]
    have e : D16 ^ n = 256 ^ (2 * n) := by rw [Int.pow_mul]; rfl
    rw [e, Int.pow_succ]
    unfold rdD
    grind

theorem rdD_dg {x : Nat → Int} (h : ∀ i, IntKind.u8.has (x i)) (n : Nat) : Dg 65536 n (rdD x) := fun i _ => by
  have := has_u8 (h (2 * i)); have := has_u8 (h (2 * i + 1))
  unfold rdD
  omega

/-- Below the modulus, by the digits from the highest down. -/
def lessK (x : Nat → Int) : Nat → Bool
  | 0 => decide (x 0 < 65517)
  | k + 1 => (x (k + 1) != 65535) || lessK x k
def lessD (x : Nat → Int) : Bool := if x 15 != 32767 then decide (x 15 < 32767) else lessK x 14

theorem lessK_eq {x : Nat → Int} : ∀ {k : Nat}, k < 15 → (∀ i, i ≤ k → 0 ≤ x i ∧ x i < 65536) → lessK x k = decide (val D16 x (k + 1) < val D16 mP (k + 1)) := by
  intro k
  induction k with
  | zero =>
    intro _ h
    simp [lessK, val, mP]
  | succ k ih =>
    intro hk h
    have hm : mP (k + 1) = 65535 := by
      have h1 : Nat.beq (k + 1) 0 = false := rfl
      have h2 : Nat.beq (k + 1) 15 = false := by rw [Bool.eq_false_iff]; exact fun e => by have := Nat.eq_of_beq_eq_true e; omega
      simp [mP, h1, h2]
    have hmr := val_range (B := D16) (by decide) (d := mP) (n := k + 1) fun i _ => by
      show 0 ≤ mP i ∧ mP i < 65536
      unfold mP; cases Nat.beq i 0 <;> cases Nat.beq i 15 <;> simp
    have hxr := val_range (B := D16) (by decide) (d := x) (n := k + 1) fun i hi => h i (by omega)
    have hx := h (k + 1) (Nat.le_refl _)
    rw [lessK, ih (by omega) fun i hi => h i (by omega)]
    have v1 : val D16 x (k + 1 + 1) = val D16 x (k + 1) + x (k + 1) * D16 ^ (k + 1) := rfl
    have v2 : val D16 mP (k + 1 + 1) = val D16 mP (k + 1) + mP (k + 1) * D16 ^ (k + 1) := rfl
    rw [v1, v2, hm]
    have hB : (0 : Int) < D16 ^ (k + 1) := Int.pow_pos (by decide)
    generalize D16 ^ (k + 1) = Q at *
    by_cases hd : x (k + 1) = 65535
    · rw [hd]
      simp only [bne_self_eq_false, Bool.false_or, decide_eq_decide]
      omega
    · have hlt : x (k + 1) * Q ≤ 65534 * Q := Int.mul_le_mul_of_nonneg_right (by omega) (by omega)
      have : (x (k + 1) != 65535) = true := by simpa using hd
      rw [this, Bool.true_or]
      symm
      rw [decide_eq_true_eq]
      omega

theorem lessD_eq {x : Nat → Int} (h : Dg 65536 16 x) : lessD x = decide (val D16 x 16 < pF) := by
  have hk := lessK_eq (x := x) (k := 14) (by omega) fun i hi => h i (by omega)
  have hx := h 15 (by omega)
  have hxr := val_range (B := D16) (by decide) (d := x) (n := 15) fun i hi => h i (by omega)
  have e1 : val D16 x 16 = val D16 x 15 + x 15 * D16 ^ 15 := rfl
  have e2 : pF = val D16 mP 15 + 32767 * D16 ^ 15 := by decide +kernel
  have hmr : 0 ≤ val D16 mP 15 ∧ val D16 mP 15 < D16 ^ 15 := by decide +kernel
  have hB : (0 : Int) < D16 ^ 15 := by decide
  unfold lessD
  rw [e1, e2, hk]
  simp only [Nat.reduceAdd]
  generalize val D16 x 15 = X at *
  generalize val D16 mP 15 = Mv at *
  generalize D16 ^ 15 = Q at *
  by_cases hd : x 15 = 32767
  · rw [hd]
    simp
  · have : (x 15 != 32767) = true := by simpa using hd
    rw [this, if_pos rfl]
    rw [decide_eq_decide]
    constructor
    · intro hl
      have hlt : x 15 * Q ≤ 32766 * Q := Int.mul_le_mul_of_nonneg_right (by omega) (by omega)
      omega
    · intro hl
      apply Classical.byContradiction
      intro hn
      have hlt : 32768 * Q ≤ x 15 * Q := Int.mul_le_mul_of_nonneg_right (by omega) (by omega)
      omega

/-- The bytes of the digits. -/
def outD (x : Nat → Int) : List Value := (List.range 32).map fun j => .int .u8 (if j % 2 = 0 then IntKind.u8.wrap ((x (j / 2)).tmod 256) else IntKind.u8.wrap (IntKind.i64.wrap ((x (j / 2)).tdiv 256)))

theorem outD_eq {x : Nat → Int} (h : Dg 65536 16 x) : outD x = bytesN (val D16 x 16) := by
  unfold outD bytesN cellsI
  apply List.map_congr_left
  intro j hj
  have hj := List.mem_range.1 hj
  have hd := val_digit (B := D16) (by decide) (d := x) (k := j / 2) (n := 16) (by omega) h
  have hx := h (j / 2) (by omega)
  have e : D16 ^ (j / 2) = 256 ^ (2 * (j / 2)) := by rw [Int.pow_mul]; rfl
  congr 1
  show _ = val D16 x 16 / 256 ^ j % 256
  rw [Int.tmod_eq_emod_of_nonneg hx.1, Int.tdiv_eq_ediv_of_nonneg hx.1, w64 (by omega) (by omega), wrap_u8, wrap_u8, hd, e]
  show (if j % 2 = 0 then val D16 x 16 / 256 ^ (2 * (j / 2)) % 65536 % 256 % 256 else val D16 x 16 / 256 ^ (2 * (j / 2)) % 65536 / 256 % 256) = _
  by_cases h2 : j % 2 = 0
  · rw [if_pos h2, show 2 * (j / 2) = j by omega]
    omega
  · rw [if_neg h2]
    have e2 : (256 : Int) ^ j = 256 ^ (2 * (j / 2)) * 256 := by rw [← Int.pow_succ]; congr 1; omega
    rw [e2, ← Int.ediv_ediv_of_nonneg (Int.le_of_lt (Int.pow_pos (by decide)))]
    omega

end Go.Num
