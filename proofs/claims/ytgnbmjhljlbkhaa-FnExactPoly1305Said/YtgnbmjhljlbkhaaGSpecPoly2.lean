/- The specification's folding modulo 2^130 - 5, as numbers.
   Conditions: the digits are in bounds; plain arithmetic. -/
import Derived.Test.YtgnbmjhljlbkhaaGSpecPoly
set_option linter.unusedVariables false
namespace Go.Num
open Go.Ab

def B40 : Int := 2135987035920910082395021706169552114602704522356652769947041607822219725780640550022962086936576
theorem B40e : (256 : Int) ^ 40 = B40 := by decide

theorem val_ext (d : Nat → Int) {m : Nat} : ∀ {n : Nat}, m ≤ n → val 256 (ext d m) n = val 256 d m := by
  intro n
  induction n with
  | zero => intro h; have : m = 0 := by omega
            subst this; rfl
  | succ n ih =>
    intro h
    by_cases hm : m = n + 1
    · subst hm
      exact val_congr fun i hi => by have : Nat.blt i (n + 1) = true := Nat.blt_eq.mpr hi; simp [ext, this]
    · simp only [val]
      rw [ih (by omega)]
      have : Nat.blt n m = false := by rw [Bool.eq_false_iff]; exact fun e => by have := Nat.blt_eq.mp e; omega
      simp [ext, this]

/-- A quarter of a number, digit by digit. -/
def q4 (y : Nat → Int) (j : Nat) : Int := y j / 4 + y (j + 1) % 4 * 64
theorem q4_val (y : Nat → Int) : ∀ n, 4 * val 256 (q4 y) n = val 256 y n - y 0 % 4 + y n % 4 * 256 ^ n := by
  intro n
  induction n with
  | zero => simp [val]; omega
  | succ n ih =>
    simp only [val]
    rw [Int.mul_add, ih, Int.pow_succ]
    have e : 4 * (y n / 4) = y n - y n % 4 := by omega
    unfold q4
    have : 4 * ((y n / 4 + y (n + 1) % 4 * 64) * 256 ^ n) = (4 * (y n / 4)) * 256 ^ n + y (n + 1) % 4 * (256 ^ n * 256) := by grind
    rw [this, e]
    grind

/-- The digits from place 16 on, 24 of them. -/
def yD (x : Nat → Int) (j : Nat) : Int := bif Nat.blt (16 + j) 40 then x (16 + j) else 0
def lowF (x : Nat → Int) (k : Nat) : Int := (bif Nat.blt k 17 then (bif Nat.beq k 16 then x 16 % 4 else x k) else 0) + 5 * q4 (yD x) k

theorem base_val (x : Nat → Int) : val 256 (fun k => bif Nat.blt k 17 then (bif Nat.beq k 16 then x 16 % 4 else x k) else 0) 24 = val 256 x 16 + x 16 % 4 * 256 ^ 16 := by
  have e : val 256 (fun k => bif Nat.blt k 17 then (bif Nat.beq k 16 then x 16 % 4 else x k) else 0) 24 = val 256 (fun k => bif Nat.beq k 16 then x 16 % 4 else x k) 17 :=
    val_ext (fun k => bif Nat.beq k 16 then x 16 % 4 else x k) (m := 17) (n := 24) (by omega)
  rw [e]
  have e2 : val 256 (fun k => bif Nat.beq k 16 then x 16 % 4 else x k) 17 = val 256 (fun k => bif Nat.beq k 16 then x 16 % 4 else x k) 16 + x 16 % 4 * 256 ^ 16 := rfl
  have e3 : val 256 (fun k => bif Nat.beq k 16 then x 16 % 4 else x k) 16 = val 256 x 16 := val_congr fun i hi => by
    have : Nat.beq i 16 = false := by rw [Bool.eq_false_iff]; exact fun e => by have := Nat.eq_of_beq_eq_true e; omega
    simp [this]
  rw [e2, e3]

theorem lowF_val {x : Nat → Int} (h : Dg 256 40 x) : val 256 (lowF x) 24 = foldP (val 256 x 40) := by
  have e1 : val 256 x (16 + 24) = _ := val_split (m := 16) (n := 24)
  have ey : val 256 (fun i => x (16 + i)) 24 = val 256 (yD x) 24 := val_congr fun i hi => by
    have : Nat.blt (16 + i) 40 = true := Nat.blt_eq.mpr (by omega)
    simp [yD, this]
  have hq := q4_val (yD x) 24
  have y24 : yD x 24 = 0 := rfl
  have y0 : yD x 0 = x 16 := rfl
  rw [y24, y0] at hq
  have e2 : val 256 (lowF x) 24 = val 256 x 16 + x 16 % 4 * 256 ^ 16 + 5 * val 256 (q4 (yD x)) 24 := by
    unfold lowF
    rw [val_add (t := fun k => 5 * q4 (yD x) k), val_smul, base_val]
  have hr := val_range (B := 256) (by decide) (d := x) (n := 16) fun i hi => h i (by omega)
  have hy := val_range (B := 256) (by decide) (d := yD x) (n := 24) fun i hi => by
    have : Nat.blt (16 + i) 40 = true := Nat.blt_eq.mpr (by omega)
    simp only [yD, this, cond_true]
    exact h _ (by omega)
  have e16 : (256 : Int) ^ 16 = 340282366920938463463374607431768211456 := by decide
  -- the higher digits modulo 4 are the lowest of them modulo 4
  have hm : val 256 (yD x) 24 % 4 = x 16 % 4 := by
    have : val 256 (yD x) (1 + 23) = _ := val_split (m := 1) (n := 23)
    rw [val_one, y0] at this
    have e : (256 : Int) ^ 1 = 256 := by decide
    rw [e] at this
    rw [show 24 = 1 + 23 from rfl, this]
    omega
  rw [e2]
  rw [show 40 = 16 + 24 from rfl, e1, ey]
  rw [e16] at *
  unfold foldP
  generalize val 256 (yD x) 24 = Y at *
  generalize val 256 (q4 (yD x)) 24 = Q at *
  generalize val 256 x 16 = Lw at *
  generalize x 16 = t at *
  omega

theorem yD_range {x : Nat → Int} (h : Dg 256 40 x) (j : Nat) : 0 ≤ yD x j ∧ yD x j < 256 := by
  unfold yD
  cases hb : Nat.blt (16 + j) 40 with
  | true => exact h _ (Nat.blt_eq.mp hb)
  | false => simp
theorem q4_range {x : Nat → Int} (h : Dg 256 40 x) (j : Nat) : 0 ≤ q4 (yD x) j ∧ q4 (yD x) j ≤ 300 := by
  have := yD_range h j; have := yD_range h (j + 1)
  unfold q4
  omega
theorem lowF_range {x : Nat → Int} (h : Dg 256 40 x) {k : Nat} (hk : k < 24) : 0 ≤ lowF x k ∧ lowF x k ≤ 2000 := by
  have := q4_range h k; have := h 16 (by omega); have := h k (by omega)
  unfold lowF
  cases Nat.blt k 17 <;> cases Nat.beq k 16 <;> simp only [cond_true, cond_false] <;> omega

theorem foldP_small {X : Int} (h : 0 ≤ X) (h2 : X < 1361129467683753853853498429727072845824 * 2) : 0 ≤ foldP X ∧ foldP X < 1361129467683753853853498429727072845824 + 5 := by unfold foldP; omega

/-- Four times folded, a number below 2^255 is below 2^130. -/
theorem fold4 {X : Int} (h : 0 ≤ X) (h2 : X < 57896044618658097711785492504343953926634992332820282019728792003956564819968) :
    0 ≤ foldP (foldP (foldP (foldP X))) ∧ foldP (foldP (foldP (foldP X))) < 1361129467683753853853498429727072845824 ∧ foldP (foldP (foldP (foldP X))) % P130 = X % P130 := by
  obtain ⟨a1, a2⟩ := foldP_lt h h2
  have b : 0 ≤ foldP (foldP X) ∧ foldP (foldP X) < 1361129467683753853853498429727072845824 := by
    generalize foldP X = Y at *
    unfold foldP
    omega
  have st : ∀ {Y : Int}, 0 ≤ Y → Y < 1361129467683753853853498429727072845824 → foldP Y = Y := fun {Y} p q => by unfold foldP; omega
  rw [st b.1 b.2, st b.1 b.2]
  exact ⟨b.1, b.2, by rw [foldP_mod, foldP_mod]⟩

end Go.Num
