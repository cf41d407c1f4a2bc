/- Numbers as digits: what carrying, changing one digit and multiplying do to the number.
   Conditions: none; plain arithmetic. -/
import Derived.Laws.Bits64b
namespace Go.Num

/-- The number that the first n digits make. -/
def val (B : Int) (t : Nat → Int) : Nat → Int
  | 0 => 0
  | n + 1 => val B t n + t n * B ^ n

theorem val_congr {B : Int} {s t : Nat → Int} : ∀ {n : Nat}, (∀ i, i < n → s i = t i) → val B s n = val B t n := by
  intro n
  induction n with
  | zero => intro _; rfl
  | succ n ih => intro h; simp only [val]; rw [ih fun i hi => h i (by omega), h n (by omega)]

theorem val_add {B : Int} {s t : Nat → Int} : ∀ {n : Nat}, val B (fun i => s i + t i) n = val B s n + val B t n := by
  intro n
  induction n with
  | zero => rfl
  | succ n ih => simp only [val]; rw [ih]; grind

theorem val_smul {B c : Int} {t : Nat → Int} : ∀ {n : Nat}, val B (fun i => c * t i) n = c * val B t n := by
  intro n
  induction n with
  | zero => simp [val]
  | succ n ih => simp only [val]; rw [ih]; grind

/-- The digits from m on. -/
theorem val_split {B : Int} {t : Nat → Int} {m : Nat} : ∀ {n : Nat}, val B t (m + n) = val B t m + B ^ m * val B (fun i => t (m + i)) n := by
  intro n
  induction n with
  | zero => simp [val]
  | succ n ih =>
    rw [← Nat.add_assoc]
    simp only [val]
    rw [ih, Int.pow_add]
    grind

def upd (t : Nat → Int) (k : Nat) (v : Int) : Nat → Int := fun i => bif Nat.beq i k then v else t i

theorem upd_self (t : Nat → Int) (k : Nat) (v : Int) : upd t k v k = v := by simp [upd]
theorem upd_ne {t : Nat → Int} {k : Nat} {v : Int} {i : Nat} (h : i ≠ k) : upd t k v i = t i := by
  have : Nat.beq i k = false := by rw [Bool.eq_false_iff]; exact fun e => h (Nat.eq_of_beq_eq_true e)
  simp [upd, this]

theorem val_upd {B : Int} {t : Nat → Int} {k : Nat} {v : Int} : ∀ {n : Nat}, k < n → val B (upd t k v) n = val B t n + (v - t k) * B ^ k := by
  intro n
  induction n with
  | zero => intro h; omega
  | succ n ih =>
    intro h
    simp only [val]
    by_cases hk : k = n
    · subst hk
      rw [upd_self, val_congr (s := upd t k v) (t := t) fun i hi => upd_ne (by omega)]
      grind
    · rw [ih (by omega), upd_ne (by omega)]
      grind

/-- One row of a product, added. -/
def convI (w : Int → Int) (x y : Nat → Int) (i : Nat) : Nat → (Nat → Int) → (Nat → Int)
  | 0, t => t
  | j + 1, t => upd (convI w x y i j t) (i + j) (w (convI w x y i j t (i + j) + w (x i * y j)))
def convO (w : Int → Int) (x y : Nat → Int) (n : Nat) : Nat → (Nat → Int)
  | 0 => fun _ => 0
  | i + 1 => convI w x y i n (convO w x y n i)

theorem convI_val {B : Int} {x y : Nat → Int} {i N : Nat} : ∀ {j : Nat} {t : Nat → Int}, i + j ≤ N → val B (convI id x y i j t) N = val B t N + x i * B ^ i * val B y j := by
  intro j
  induction j with
  | zero => intro t _; simp [convI, val]
  | succ j ih =>
    intro t h
    simp only [convI, val, id]
    rw [val_upd (by omega), ih (by omega), Int.pow_add]
    grind

theorem val_zero {B : Int} (k : Nat) : val B (fun _ => 0) k = 0 := by
  induction k with
  | zero => rfl
  | succ k ih => simp [val, ih]

theorem convO_val {B : Int} {x y : Nat → Int} {n N : Nat} : ∀ {m : Nat}, m + n ≤ N + 1 → val B (convO id x y n m) N = val B x m * val B y n := by
  intro m
  induction m with
  | zero => intro _; simp [convO, val, val_zero]
  | succ m ih =>
    intro h
    simp only [convO, val]
    rw [convI_val (by omega), ih (by omega)]
    grind

/-- Digits in bounds: no sum leaves its bound, so that wrapping changes nothing. -/
theorem convI_le {w : Int → Int} {x y : Nat → Int} {n i : Nat} {Q T : Int} (hq : ∀ j, j < n → 0 ≤ x i * y j ∧ x i * y j ≤ Q) (hQ : 0 ≤ Q) (hT : 0 ≤ T) (hw : ∀ a, 0 ≤ a → a ≤ T + Q → w a = a) :
    ∀ {j : Nat} {t : Nat → Int}, j ≤ n → (∀ k, 0 ≤ t k ∧ t k ≤ T) → convI w x y i j t = convI id x y i j t ∧ (∀ k, 0 ≤ convI id x y i j t k ∧ convI id x y i j t k ≤ T + Q ∧ (i + j ≤ k → convI id x y i j t k ≤ T)) := by
  intro j
  induction j with
  | zero =>
    intro t _ ht
    refine ⟨rfl, fun k => ?_⟩
    have := ht k
    simp only [convI]
    exact ⟨this.1, by omega, fun _ => this.2⟩
  | succ j ih =>
    intro t hj ht
    obtain ⟨h1, h2⟩ := ih (by omega) ht
    have hp := hq j (by omega)
    have hs := h2 (i + j)
    have hs3 := hs.2.2 (Nat.le_refl _)
    simp only [convI, h1, id]
    rw [hw (x i * y j) hp.1 (by omega), hw _ (by omega) (by omega)]
    refine ⟨rfl, fun k => ?_⟩
    by_cases hk : k = i + j
    · subst hk
      rw [upd_self]
      exact ⟨by omega, by omega, fun h => by omega⟩
    · rw [upd_ne hk]
      have := h2 k
      exact ⟨this.1, this.2.1, fun h => this.2.2 (by omega)⟩

theorem convO_le {w : Int → Int} {x y : Nat → Int} {n : Nat} {Q : Int} {M : Nat} (hq : ∀ i j, i < M → j < n → 0 ≤ x i * y j ∧ x i * y j ≤ Q) (hQ : 0 ≤ Q) (hw : ∀ a, 0 ≤ a → a ≤ M * Q → w a = a) :
    ∀ {m : Nat}, m ≤ M → convO w x y n m = convO id x y n m ∧ ∀ k, 0 ≤ convO id x y n m k ∧ convO id x y n m k ≤ m * Q := by
  intro m
  induction m with
  | zero => intro _; exact ⟨rfl, fun k => by simp [convO]⟩
  | succ m ih =>
    intro hm
    obtain ⟨h1, h2⟩ := ih (by omega)
    have e : ((m + 1 : Nat) : Int) * Q = m * Q + Q := by rw [Int.natCast_add, Int.add_mul]; simp
    have hmQ : 0 ≤ (m : Int) * Q := Int.mul_nonneg (by omega) hQ
    have hle : (m : Int) * Q + Q ≤ M * Q := by rw [← e]; exact Int.mul_le_mul_of_nonneg_right (by omega) hQ
    obtain ⟨h3, h4⟩ := convI_le (w := w) (i := m) (fun j hj => hq m j (by omega) hj) hQ hmQ (fun a ha hb => hw a ha (by omega)) (Nat.le_refl n) h2
    simp only [convO, h1, h3]
    refine ⟨trivial, fun k => ?_⟩
    have := h4 k
    rw [e]
    exact ⟨this.1, this.2.1⟩

/-- The carry into digit k. -/
def car (B : Int) (t : Nat → Int) : Nat → Int
  | 0 => 0
  | k + 1 => (car B t k + t k) / B

def dig (B : Int) (t : Nat → Int) (k : Nat) : Int := (car B t k + t k) % B

theorem dig_range {B : Int} (hB : 0 < B) (t : Nat → Int) (k : Nat) : 0 ≤ dig B t k ∧ dig B t k < B := ⟨Int.emod_nonneg _ (by omega), Int.emod_lt_of_pos _ hB⟩

theorem dig_val {B : Int} {t : Nat → Int} : ∀ {n : Nat}, val B (dig B t) n + car B t n * B ^ n = val B t n := by
  intro n
  induction n with
  | zero => simp [val, car]
  | succ n ih =>
    simp only [val, car, dig]
    have e : car B t n + t n = B * ((car B t n + t n) / B) + (car B t n + t n) % B := (Int.mul_ediv_add_emod _ _).symm
    have : t n = B * ((car B t n + t n) / B) + (car B t n + t n) % B - car B t n := by omega
    rw [← ih, Int.pow_succ]
    generalize (car B t n + t n) / B = c at *
    generalize (car B t n + t n) % B = d at *
    rw [this]
    grind

theorem car_range {B : Int} {t : Nat → Int} {T C : Int} (hB : 0 < B) (hC : 0 ≤ C) (hCT : C + T < B * (C + 1)) {n : Nat} (ht : ∀ k, k < n → 0 ≤ t k ∧ t k ≤ T) : ∀ {k : Nat}, k ≤ n → 0 ≤ car B t k ∧ car B t k ≤ C := by
  intro k
  induction k with
  | zero => intro _; exact ⟨Int.le_refl 0, hC⟩
  | succ k ih =>
    intro hk
    obtain ⟨h1, h2⟩ := ih (by omega)
    have h3 := ht k (by omega)
    simp only [car]
    refine ⟨Int.ediv_nonneg (by omega) (by omega), ?_⟩
    have : (car B t k + t k) / B < C + 1 := Int.ediv_lt_of_lt_mul hB (by rw [Int.mul_comm]; omega)
    omega

theorem val_range {B : Int} (hB : 0 < B) {d : Nat → Int} : ∀ {n : Nat}, (∀ i, i < n → 0 ≤ d i ∧ d i < B) → 0 ≤ val B d n ∧ val B d n < B ^ n := by
  intro n
  induction n with
  | zero => intro _; simp [val]
  | succ n ih =>
    intro h
    obtain ⟨h1, h2⟩ := ih fun i hi => h i (by omega)
    obtain ⟨h3, h4⟩ := h n (by omega)
    simp only [val]
    have hp : 0 < B ^ n := Int.pow_pos hB
    refine ⟨Int.add_nonneg h1 (Int.mul_nonneg h3 (by omega)), ?_⟩
    have : d n * B ^ n ≤ (B - 1) * B ^ n := Int.mul_le_mul_of_nonneg_right (by omega) (by omega)
    rw [Int.pow_succ]
    have e : (B - 1) * B ^ n = B ^ n * B - B ^ n := by grind
    omega

theorem val_div {B : Int} (hB : 0 < B) {d : Nat → Int} {k m : Nat} (h : ∀ i, i < k → 0 ≤ d i ∧ d i < B) : val B d (k + m) / B ^ k = val B (fun i => d (k + i)) m := by
  obtain ⟨h1, h2⟩ := val_range hB h
  have hp : 0 < B ^ k := Int.pow_pos hB
  rw [val_split, Int.add_mul_ediv_left _ _ (by omega), Int.ediv_eq_zero_of_lt h1 h2, Int.zero_add]

theorem val_mod {B : Int} (hB : 0 < B) {d : Nat → Int} {k m : Nat} (h : ∀ i, i < k → 0 ≤ d i ∧ d i < B) : val B d (k + m) % B ^ k = val B d k := by
  obtain ⟨h1, h2⟩ := val_range hB h
  rw [val_split, Int.add_mul_emod_self_left, Int.emod_eq_of_lt h1 h2]

/-- A digit out of the number. -/
theorem val_digit {B : Int} (hB : 0 < B) {d : Nat → Int} {k n : Nat} (hk : k < n) (h : ∀ i, i < n → 0 ≤ d i ∧ d i < B) : d k = val B d n / B ^ k % B := by
  have e : n = k + (1 + (n - k - 1)) := by omega
  rw [e, val_div hB fun i hi => h i (by omega)]
  have h1 : ∀ i, i < 1 → 0 ≤ d (k + i) ∧ d (k + i) < B := fun i hi => h _ (by omega)
  have := val_mod hB (d := fun i => d (k + i)) (k := 1) (m := n - k - 1) h1
  rw [Int.pow_succ, Int.pow_zero, Int.one_mul] at this
  rw [this]
  simp [val]

theorem val_inj {B : Int} (hB : 0 < B) {d e : Nat → Int} {n : Nat} (hd : ∀ i, i < n → 0 ≤ d i ∧ d i < B) (he : ∀ i, i < n → 0 ≤ e i ∧ e i < B) (h : val B d n = val B e n) : ∀ i, i < n → d i = e i := fun i hi => by
  rw [val_digit hB hi hd, val_digit hB hi he, h]

/-- Carried through, a number that n digits can hold keeps its value. -/
theorem car_out {B : Int} (hB : 0 < B) {t : Nat → Int} {n : Nat} : car B t n = val B t n / B ^ n ∧ val B (dig B t) n = val B t n % B ^ n := by
  have h := dig_val (B := B) (t := t) (n := n)
  obtain ⟨h1, h2⟩ := val_range hB (d := dig B t) (n := n) fun i _ => dig_range hB t i
  have hp : 0 < B ^ n := Int.pow_pos hB
  rw [← h, Int.add_mul_ediv_right _ _ (by omega), Int.ediv_eq_zero_of_lt h1 h2, Int.add_mul_emod_self_right, Int.emod_eq_of_lt h1 h2]
  simp

end Go.Num
