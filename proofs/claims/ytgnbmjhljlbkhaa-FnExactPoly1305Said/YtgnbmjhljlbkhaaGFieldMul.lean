/- The product in five limbs of 51 bits, as the program computes it, is congruent to the product.
   Conditions: the limbs are in bounds; plain arithmetic. -/
import Derived.Test.YtgnbmjhljlbkhaaGField
set_option linter.unusedVariables false
namespace Go.Num
open Go.Ab

def wx (x : Nat → Int) (i k : Nat) : Int := bif Nat.blt (i + k) 5 then x i else IntKind.u64.wrap (x i * 19)
def tx (x y : Nat → Int) (i j : Nat) : Int := bif Nat.ble i j then x i * y (j - i) else IntKind.u64.wrap (x i * 19) * y (5 + j - i)
/-- The sums of products after i rows. -/
def VV (x y : Nat → Int) : Nat → Nat → Int
  | 0, _ => 0
  | i + 1, j => VV x y i j / 18446744073709551616 * 18446744073709551616 + VV x y i j % 18446744073709551616 + tx x y i j

def jj (i k : Nat) : Nat := bif Nat.blt (i + k) 5 then i + k else i + k - 5

def plusPins (x y : Nat → Int) : Pins := (List.range 5).flatMap fun i => (List.range 5).map fun k =>
  (plusB (VV x y i (jj i k) / 18446744073709551616) (VV x y i (jj i k) % 18446744073709551616) (wx x i k) (y k), true)

/-- Low and high word on the way. -/
def ch (R : Nat → Int) : Nat → Int × Int
  | 0 => (0, 0)
  | i + 1 => 
    let lo := (R i % 18446744073709551616 + (ch R i).2 + 0) % 18446744073709551616
    let hi := (R i / 18446744073709551616 + (ch R i).1 + (R i % 18446744073709551616 + (ch R i).2 + 0) / 18446744073709551616) % 18446744073709551616
    (hi.fdiv (2 ^ 51), bits .or .u64 (lo.fdiv (2 ^ 51)) (IntKind.u64.wrap (hi * 2 ^ 13)))

def lowI (R : Nat → Int) (i : Nat) : Int := (R i % 18446744073709551616 + (ch R i).2 + 0) % 18446744073709551616
def outI (R : Nat → Int) (i : Nat) : Int := bits .and .u64 (lowI R i) 2251799813685247

def lowZ (R : Nat → Int) : Int := (outI R 0 + (ch R 5).2 * 19 % 18446744073709551616 + 0) % 18446744073709551616
def highZ (R : Nat → Int) : Int := IntKind.u64.wrap ((ch R 5).2 * 19 / 18446744073709551616 + IntKind.u64.wrap ((outI R 0 + (ch R 5).2 * 19 % 18446744073709551616 + 0) / 18446744073709551616 + IntKind.u64.wrap (19 * (ch R 5).1)))
def mulL (R : Nat → Int) : List Value :=
  [.int .u64 (bits .and .u64 (lowZ R) 2251799813685247), .int .u64 (IntKind.u64.wrap (outI R 1 + bits .or .u64 ((lowZ R).fdiv (2 ^ 51)) (IntKind.u64.wrap (highZ R * 2 ^ 13)))), .int .u64 (outI R 2), .int .u64 (outI R 3), .int .u64 (outI R 4)]

def addPins (R : Nat → Int) : Pins := (List.range 5).flatMap fun i =>
  [(addB (R i % 18446744073709551616) (ch R i).2 0, true), (addB (R i / 18446744073709551616) (ch R i).1 ((R i % 18446744073709551616 + (ch R i).2 + 0) / 18446744073709551616), true)]

/-- Are all cells numbers from 0 to K? -/
def leB (K : Int) (l : List Value) : Bool := l.all fun v => decide (0 ≤ vint v) && decide (vint v ≤ K)

def mulPins (x y : Nat → Int) : Pins := plusPins x y ++ (addPins (VV x y 5) ++ [(hasB .u64 (ch (VV x y 5) 5).2 && hasB .u64 19, true), (addB (outI (VV x y 5) 0) ((ch (VV x y 5) 5).2 * 19 % 18446744073709551616) 0, true), (leB 9223372036854775807 (mulL (VV x y 5)), true)])

/-- What the sums of products come to. -/
def Rx (x y : Nat → Int) (j : Nat) : Int := bif Nat.beq j 0 then x 0 * y 0 + 19 * (x 1 * y 4 + x 2 * y 3 + x 3 * y 2 + x 4 * y 1) else
  bif Nat.beq j 1 then x 0 * y 1 + x 1 * y 0 + 19 * (x 2 * y 4 + x 3 * y 3 + x 4 * y 2) else
  bif Nat.beq j 2 then x 0 * y 2 + x 1 * y 1 + x 2 * y 0 + 19 * (x 3 * y 4 + x 4 * y 3) else
  bif Nat.beq j 3 then x 0 * y 3 + x 1 * y 2 + x 2 * y 1 + x 3 * y 0 + 19 * (x 4 * y 4) else
  x 0 * y 4 + x 1 * y 3 + x 2 * y 2 + x 3 * y 1 + x 4 * y 0

theorem VV_succ (x y : Nat → Int) (i j : Nat) : VV x y (i + 1) j = VV x y i j + tx x y i j := by
  rw [VV]; omega

theorem prod_bd {x y : Nat → Int} (hx : Bd RB x) (hy : Bd RB y) {i k : Nat} (hi : i < 5) (hk : k < 5) : 0 ≤ x i * y k ∧ x i * y k ≤ 5070602400912917605986812821504 * 2 := by
  have a := hx i hi
  have b := hy k hk
  refine ⟨Int.mul_nonneg a.1 b.1, ?_⟩
  have := Int.mul_le_mul a.2 b.2 b.1 (show 0 ≤ RB by decide)
  have e : RB * RB ≤ 5070602400912917605986812821504 * 2 := by decide
  omega

theorem wrap19 {x : Nat → Int} (hx : Bd RB x) {i : Nat} (hi : i < 5) : IntKind.u64.wrap (x i * 19) = x i * 19 := by
  have := hx i hi
  unfold RB at this
  rw [wrap64_id (by omega) (by omega)]

theorem tx_bd {x y : Nat → Int} (hx : Bd RB x) (hy : Bd RB y) {i j : Nat} (hi : i < 5) (hj : j < 5) : 0 ≤ tx x y i j ∧ tx x y i j ≤ 192682891234690869027498887217152 ∧ tx x y i j = (if i ≤ j then x i * y (j - i) else 19 * (x i * y (5 + j - i))) := by
  unfold tx
  by_cases h : i ≤ j
  · have hb : Nat.ble i j = true := Nat.ble_eq_true_of_le h
    have := prod_bd hx hy (i := i) (k := j - i) hi (by omega)
    rw [hb, if_pos h]
    simp only [cond_true]
    exact ⟨this.1, by omega, trivial⟩
  · have hb : Nat.ble i j = false := by rw [Bool.eq_false_iff]; exact fun e => h (Nat.le_of_ble_eq_true e)
    have := prod_bd hx hy (i := i) (k := 5 + j - i) hi (by omega)
    rw [hb, if_neg h, wrap19 hx hi]
    simp only [cond_false]
    have e : x i * 19 * y (5 + j - i) = 19 * (x i * y (5 + j - i)) := by grind
    rw [e]
    exact ⟨by omega, by omega, rfl⟩

theorem VV_bd {x y : Nat → Int} (hx : Bd RB x) (hy : Bd RB y) {j : Nat} (hj : j < 5) : ∀ {i : Nat}, i ≤ 5 → 0 ≤ VV x y i j ∧ VV x y i j ≤ i * 192682891234690869027498887217152 := by
  intro i
  induction i with
  | zero => intro _; simp [VV]
  | succ i ih =>
    intro hi
    have h1 := ih (by omega)
    have h2 := tx_bd hx hy (i := i) (j := j) (by omega) hj
    rw [VV_succ]
    generalize VV x y i j = a at *
    generalize tx x y i j = b at *
    omega

theorem VV_eq {x y : Nat → Int} (hx : Bd RB x) (hy : Bd RB y) {j : Nat} (hj : j < 5) : VV x y 5 j = Rx x y j := by
  have t := fun i (hi : i < 5) => (tx_bd hx hy (i := i) (j := j) hi hj).2.2
  have e0 : VV x y 0 j = 0 := rfl
  rw [VV_succ, VV_succ, VV_succ, VV_succ, VV_succ, t 0 (by omega), t 1 (by omega), t 2 (by omega), t 3 (by omega), t 4 (by omega), e0]
  rcases (by omega : j = 0 ∨ j = 1 ∨ j = 2 ∨ j = 3 ∨ j = 4) with rfl | rfl | rfl | rfl | rfl <;> simp [Rx, Nat.beq] <;> omega

theorem Rx_val (x y : Nat → Int) : ∃ q, val B51 (Rx x y) 5 = val B51 x 5 * val B51 y 5 - pF * q := by
  refine ⟨(x 1 * y 4 + x 2 * y 3 + x 3 * y 2 + x 4 * y 1) + (x 2 * y 4 + x 3 * y 3 + x 4 * y 2) * B51 + (x 3 * y 4 + x 4 * y 3) * B51 ^ 2 + x 4 * y 4 * B51 ^ 3, ?_⟩
  have hp : pF = B51 ^ 5 - 19 := by decide
  rw [hp, val5, val5, val5]
  simp only [Rx, Nat.beq, cond_true, cond_false]
  generalize B51 = B
  grind

theorem or_sh {lo hi : Int} (h1 : 0 ≤ lo) (h2 : lo < 18446744073709551616) (h3 : 0 ≤ hi) (h4 : hi < 18446744073709551616) :
    bits .or .u64 (lo.fdiv (2 ^ 51)) (IntKind.u64.wrap (hi * 2 ^ 13)) = (hi * 18446744073709551616 + lo) / 2251799813685248 % 18446744073709551616 := by
  have e : IntKind.u64.wrap (hi * 2 ^ 13) = (hi % 2251799813685248) * 2 ^ 13 := by rw [wrap_u64]; omega
  rw [sh51, or_comm64, e, or_add64 (by omega) (by omega) (by omega) (by omega) (by omega)]
  omega

/-- Carrying through words of 64 bits is carrying. -/
theorem ch_eq {R : Nat → Int} (h : ∀ i, i < 5 → 0 ≤ R i ∧ R i ≤ 1000000000000000000000000000000000) : ∀ {i : Nat}, i ≤ 5 → 0 ≤ car B51 R i ∧ car B51 R i ≤ 1000000000000000000 ∧ ch R i = (car B51 R i / 18446744073709551616, car B51 R i % 18446744073709551616) := by
  intro i
  induction i with
  | zero => intro _; simp [ch, car]
  | succ i ih =>
    intro hi
    obtain ⟨h1, h2, h3⟩ := ih (by omega)
    have hr := h i (by omega)
    have e : car B51 R (i + 1) = (car B51 R i + R i) / 2251799813685248 := rfl
    simp only [ch, h3, e]
    generalize car B51 R i = c at *
    generalize R i = r at *
    refine ⟨by omega, by omega, ?_⟩
    have elo : (r % 18446744073709551616 + c % 18446744073709551616 + 0) % 18446744073709551616 = (c + r) % 18446744073709551616 := by omega
    have ehi : (r / 18446744073709551616 + c / 18446744073709551616 + (r % 18446744073709551616 + c % 18446744073709551616 + 0) / 18446744073709551616) % 18446744073709551616 = (c + r) / 18446744073709551616 := by omega
    rw [elo, ehi, or_sh (by omega) (by omega) (by omega) (by omega), sh51]
    have : (c + r) / 18446744073709551616 * 18446744073709551616 + (c + r) % 18446744073709551616 = c + r := by omega
    rw [this]
    congr 1
    omega

theorem outI_eq {R : Nat → Int} (h : ∀ i, i < 5 → 0 ≤ R i ∧ R i ≤ 1000000000000000000000000000000000) {i : Nat} (hi : i < 5) : outI R i = dig B51 R i := by
  obtain ⟨h1, h2, h3⟩ := ch_eq h (i := i) (by omega)
  have hr := h i hi
  unfold outI lowI dig
  rw [h3]
  simp only
  rw [mask51 (by omega) (by omega)]
  unfold B51
  omega

/-- The limbs ahead of the last carrying. -/
def mulR (R : Nat → Int) (i : Nat) : Int :=
  bif Nat.beq i 0 then (dig B51 R 0 + 19 * car B51 R 5) % 2251799813685248 else bif Nat.beq i 1 then dig B51 R 1 + (dig B51 R 0 + 19 * car B51 R 5) / 2251799813685248 else dig B51 R i

theorem mulL_eq {R : Nat → Int} (h : ∀ i, i < 5 → 0 ≤ R i ∧ R i ≤ 1000000000000000000000000000000000) : mulL R = cellsI .u64 5 (mulR R) := by
  obtain ⟨h1, h2, h3⟩ := ch_eq h (i := 5) (by omega)
  have d := fun i => dig_range (B := B51) (by decide) R i
  have d0 := d 0
  have d1 := d 1
  have hB : B51 = 2251799813685248 := rfl
  have e : cellsI .u64 5 (mulR R) = [.int .u64 (mulR R 0), .int .u64 (mulR R 1), .int .u64 (mulR R 2), .int .u64 (mulR R 3), .int .u64 (mulR R 4)] := rfl
  rw [e]
  have z : lowZ R = (dig B51 R 0 + 19 * car B51 R 5) % 18446744073709551616 := by
    unfold lowZ
    rw [h3, outI_eq h (by omega)]
    simp only
    generalize car B51 R 5 = c at *
    generalize dig B51 R 0 = g at *
    omega
  have zh : highZ R = (dig B51 R 0 + 19 * car B51 R 5) / 18446744073709551616 := by
    unfold highZ
    rw [h3, outI_eq h (by omega)]
    simp only [wrap_u64]
    generalize car B51 R 5 = c at *
    generalize dig B51 R 0 = g at *
    omega
  unfold mulL
  rw [outI_eq h (by omega), outI_eq h (by omega), outI_eq h (by omega), outI_eq h (by omega), or_sh (by rw [z]; omega) (by rw [z]; omega) (by rw [zh]; omega) (by rw [zh]; omega), z, zh, mask51 (by omega) (by omega)]
  simp only [mulR, Nat.beq, cond_true, cond_false, wrap_u64]
  generalize car B51 R 5 = c at *
  generalize dig B51 R 0 = g at *
  generalize dig B51 R 1 = g1 at *
  have q1 : (g + 19 * c) % 18446744073709551616 % 2251799813685248 = (g + 19 * c) % 2251799813685248 := by omega
  have q2 : (g1 + ((g + 19 * c) / 18446744073709551616 * 18446744073709551616 + (g + 19 * c) % 18446744073709551616) / 2251799813685248 % 18446744073709551616) % 18446744073709551616 = g1 + (g + 19 * c) / 2251799813685248 := by omega
  rw [q1, q2]

theorem mulR_bd {R : Nat → Int} (h : ∀ i, i < 5 → 0 ≤ R i ∧ R i ≤ 1000000000000000000000000000000000) : Bd 9223372036854775807 (mulR R) := by
  obtain ⟨h1, h2, h3⟩ := ch_eq h (i := 5) (by omega)
  have hB : B51 = 2251799813685248 := rfl
  intro i hi
  have d0 := dig_range (B := B51) (by decide) R 0
  have d1 := dig_range (B := B51) (by decide) R 1
  have di := dig_range (B := B51) (by decide) R i
  unfold mulR
  cases Nat.beq i 0 <;> cases Nat.beq i 1 <;> simp only [cond_true, cond_false] <;> omega

theorem mulR_val (R : Nat → Int) : val B51 (mulR R) 5 = val B51 R 5 - pF * car B51 R 5 := by
  have h := dig_val (B := B51) (t := R) (n := 5)
  have hB : B51 ^ 5 = pF + 19 := by decide
  rw [hB] at h
  rw [val5] at h ⊢
  simp only [mulR, Nat.beq, cond_true, cond_false]
  have e : (dig B51 R 0 + 19 * car B51 R 5) % 2251799813685248 + ((dig B51 R 0 + 19 * car B51 R 5) / 2251799813685248) * 2251799813685248 = dig B51 R 0 + 19 * car B51 R 5 := by omega
  have eB : B51 = 2251799813685248 := rfl
  generalize (dig B51 R 0 + 19 * car B51 R 5) % 2251799813685248 = u at *
  generalize (dig B51 R 0 + 19 * car B51 R 5) / 2251799813685248 = v at *
  rw [← eB] at e
  grind

/-- The product. -/
def mulE (x y : Nat → Int) : Nat → Int := carE (mulR (Rx x y))

theorem Rx_bd {x y : Nat → Int} (hx : Bd RB x) (hy : Bd RB y) : ∀ i, i < 5 → 0 ≤ Rx x y i ∧ Rx x y i ≤ 1000000000000000000000000000000000 := fun i hi => by
  have := VV_bd hx hy hi (i := 5) (Nat.le_refl 5)
  rw [VV_eq hx hy hi] at this
  omega

theorem car_congr {B : Int} {s t : Nat → Int} : ∀ {n : Nat}, (∀ i, i < n → s i = t i) → car B s n = car B t n := by
  intro n
  induction n with
  | zero => intro _; rfl
  | succ n ih => intro h; simp only [car]; rw [ih fun i hi => h i (by omega), h n (by omega)]

theorem dig_congr {B : Int} {s t : Nat → Int} {n : Nat} (h : ∀ i, i ≤ n → s i = t i) : dig B s n = dig B t n := by
  unfold dig; rw [car_congr fun i hi => h i (by omega), h n (by omega)]

theorem mulR_congr {R S : Nat → Int} (h : ∀ i, i < 5 → R i = S i) : ∀ i, i < 5 → mulR R i = mulR S i := fun i hi => by
  unfold mulR
  rw [car_congr h, dig_congr (s := R) (t := S) (n := 0) fun k hk => h k (by omega), dig_congr (s := R) (t := S) (n := 1) fun k hk => h k (by omega), dig_congr (s := R) (t := S) (n := i) fun k hk => h k (by omega)]

theorem carE_congr {x y : Nat → Int} (h : ∀ i, i < 5 → x i = y i) : ∀ i, i < 5 → carE x i = carE y i := fun i hi => by
  unfold carE
  rw [car_congr h, dig_congr fun k hk => h k (by omega)]

theorem mulE_bd {x y : Nat → Int} (hx : Bd RB x) (hy : Bd RB y) : Bd RB (mulE x y) := carE_rb (mulR_bd (Rx_bd hx hy))

theorem mulE_val (x y : Nat → Int) : ∃ q, val B51 (mulE x y) 5 = val B51 x 5 * val B51 y 5 + pF * q := by
  obtain ⟨q, hq⟩ := Rx_val x y
  refine ⟨- q - car B51 (Rx x y) 5 - car B51 (mulR (Rx x y)) 5, ?_⟩
  unfold mulE
  rw [carE_val, mulR_val, hq]
  grind

theorem leB_iff {K : Int} {n : Nat} {k : IntKind} {x : Nat → Int} : leB K (cellsI k n x) = true ↔ ∀ i, i < n → 0 ≤ x i ∧ x i ≤ K := by
  simp only [leB, List.all_eq_true, Bool.and_eq_true, decide_eq_true_eq]
  simp only [cellsI, List.mem_map, List.mem_range]
  constructor
  · intro h i hi
    exact h _ ⟨i, hi, rfl⟩
  · rintro h v ⟨i, hi, rfl⟩
    exact h i hi

theorem mulPins_held {x y : Nat → Int} (hx : Bd RB x) (hy : Bd RB y) : Held (mulPins x y) := by
  have hr : ∀ n : Int, 0 ≤ n → n ≤ 18446744073709551615 → IntKind.u64.has n := fun n p q => ⟨p, q⟩
  have hR : ∀ i, i < 5 → 0 ≤ VV x y 5 i ∧ VV x y 5 i ≤ 1000000000000000000000000000000000 := fun i hi => by
    have := VV_bd hx hy hi (i := 5) (Nat.le_refl 5)
    omega
  intro p hp
  unfold mulPins at hp
  rcases List.mem_append.1 hp with hp | hp
  · unfold plusPins at hp
    simp only [List.mem_flatMap, List.mem_map, List.mem_range] at hp
    obtain ⟨i, hi, k, hk, rfl⟩ := hp
    simp only
    have hj : jj i k < 5 := by
      unfold jj
      cases hb : Nat.blt (i + k) 5 with
      | true => have := Nat.blt_eq.mp hb; simpa using this
      | false => simp only [cond_false]; omega
    have hv := VV_bd hx hy hj (i := i) (by omega)
    have hxi := hx i hi
    have hyk := hy k hk
    have hw : 0 ≤ wx x i k ∧ wx x i k ≤ 42784196462510080 ∧ wx x i k * y k ≤ 192682891234690869027498887217152 := by
      have hp := prod_bd hx hy hi hk
      have hRB : RB = 2251799813816320 := rfl
      unfold wx
      cases Nat.blt (i + k) 5 with
      | true => simp only [cond_true]; exact ⟨hxi.1, by omega, by omega⟩
      | false =>
        simp only [cond_false]
        rw [wrap19 hx hi]
        have e : x i * 19 * y k = 19 * (x i * y k) := by grind
        rw [e]
        exact ⟨by omega, by omega, by omega⟩
    have hRB : RB = 2251799813816320 := rfl
    simp only [plusB, Bool.and_eq_true, hasB_iff, decide_eq_true_eq]
    generalize VV x y i (jj i k) = V at *
    generalize wx x i k * y k = W at *
    have hi5 : (i : Int) ≤ 5 := by omega
    refine ⟨hr _ (by omega) (by omega), hr _ (by omega) (by omega), hr _ hw.1 (by omega), hr _ hyk.1 (by omega), by omega⟩
  · rcases List.mem_append.1 hp with hp | hp
    · unfold addPins at hp
      simp only [List.mem_flatMap, List.mem_range, List.mem_cons, List.not_mem_nil, or_false] at hp
      obtain ⟨i, hi, hp⟩ := hp
      obtain ⟨h1, h2, h3⟩ := ch_eq hR (i := i) (by omega)
      have hv := hR i hi
      rw [h3] at hp
      generalize VV x y 5 i = V at *
      generalize car B51 (VV x y 5) i = c at *
      rcases hp with rfl | rfl
      · exact addB_iff.2 ⟨hr _ (by omega) (by omega), hr _ (by omega) (by simp only; omega), by omega, by omega⟩
      · exact addB_iff.2 ⟨hr _ (by omega) (by omega), hr _ (by simp only; omega) (by simp only; omega), by simp only; omega, by simp only; omega⟩
    · obtain ⟨h1, h2, h3⟩ := ch_eq hR (i := 5) (by omega)
      have h0 := outI_eq hR (i := 0) (by omega)
      have hd := dig_range (B := B51) (by decide) (VV x y 5) 0
      have hB : B51 = 2251799813685248 := rfl
      simp only [List.mem_cons, List.not_mem_nil, or_false] at hp
      rcases hp with rfl | rfl | rfl
      · rw [h3]
        simp only [Bool.and_eq_true, hasB_iff]
        exact ⟨hr _ (by omega) (by omega), by decide, by decide⟩
      · rw [h3, h0]
        exact addB_iff.2 ⟨hr _ (by omega) (by omega), hr _ (by omega) (by omega), by omega, by omega⟩
      · simp only
        rw [mulL_eq hR, leB_iff]
        exact mulR_bd hR

theorem mulL_mulR {x y : Nat → Int} (hx : Bd RB x) (hy : Bd RB y) : cellsI .u64 5 (carE (wd (mulL (VV x y 5)))) = cellsI .u64 5 (mulE x y) := by
  have hR : ∀ i, i < 5 → 0 ≤ VV x y 5 i ∧ VV x y 5 i ≤ 1000000000000000000000000000000000 := fun i hi => by
    have := VV_bd hx hy hi (i := 5) (Nat.le_refl 5)
    omega
  refine cellsI_congr fun i hi => ?_
  unfold mulE
  refine carE_congr (fun k hk => ?_) i hi
  rw [mulL_eq hR, wd_cellsI hk]
  exact mulR_congr (fun m hm => VV_eq hx hy hm) k hk

end Go.Num
