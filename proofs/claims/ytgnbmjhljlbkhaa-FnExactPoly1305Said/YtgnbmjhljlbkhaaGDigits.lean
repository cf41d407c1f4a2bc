/- The field of 2^255 - 19 in sixteen digits of 16 bits: carrying, the sums of products, the least number.
   Conditions: the digits are in bounds; plain arithmetic. -/
import Derived.Test.YtgnbmjhljlbkhaaGFieldOut
set_option linter.unusedVariables false
namespace Go.Num
open Go.Ab

def D16 : Int := 65536
theorem D16p : D16 ^ 16 = 115792089237316195423570985008687907853269984665640564039457584007913129639936 := by decide

/-- As the text carries: into digit k, and one pass. -/
def csP (t : Nat → Int) : Nat → Int
  | 0 => 0
  | k + 1 => IntKind.i64.wrap ((IntKind.i64.wrap (csP t k + t k)).tdiv 65536)
def passP (t : Nat → Int) (i : Nat) : Int :=
  bif Nat.beq i 0 then IntKind.i64.wrap ((IntKind.i64.wrap (csP t 0 + t 0)).tmod 65536 + IntKind.i64.wrap (38 * csP t 16)) else (IntKind.i64.wrap (csP t i + t i)).tmod 65536

/-- One pass. -/
def pass (t : Nat → Int) (i : Nat) : Int := dig D16 t i + (bif Nat.beq i 0 then 38 * car D16 t 16 else 0)

theorem w64 {n : Int} (h1 : -9223372036854775808 ≤ n) (h2 : n ≤ 9223372036854775807) : IntKind.i64.wrap n = n := wrap_i64 h1 h2

theorem csP_eq {t : Nat → Int} {T : Int} (hT : T ≤ 100000000000000) (h : ∀ i, i < 16 → 0 ≤ t i ∧ t i ≤ T) : ∀ {k : Nat}, k ≤ 16 → csP t k = car D16 t k ∧ 0 ≤ car D16 t k ∧ car D16 t k ≤ T / 65535 + 1 := by
  intro k
  induction k with
  | zero =>
    intro _
    have := h 0 (by omega)
    exact ⟨rfl, Int.le_refl 0, by show (0 : Int) ≤ _; omega⟩
  | succ k ih =>
    intro hk
    obtain ⟨h1, h2, h3⟩ := ih (by omega)
    have := h k (by omega)
    have e : car D16 t (k + 1) = (car D16 t k + t k) / 65536 := rfl
    simp only [csP, h1]
    rw [w64 (n := car D16 t k + t k) (by omega) (by omega), Int.tdiv_eq_ediv_of_nonneg (by omega), w64 (by omega) (by omega), e]
    exact ⟨rfl, by omega, by omega⟩

theorem passP_eq {t : Nat → Int} {T : Int} (hT : T ≤ 100000000000000) (h : ∀ i, i < 16 → 0 ≤ t i ∧ t i ≤ T) : ∀ i, i < 16 → passP t i = pass t i := fun i hi => by
  obtain ⟨h1, h2, h3⟩ := csP_eq hT h (k := i) (by omega)
  obtain ⟨g1, g2, g3⟩ := csP_eq hT h (k := 16) (by omega)
  have hti := h i hi
  have e : dig D16 t i = (car D16 t i + t i) % 65536 := rfl
  unfold passP pass
  by_cases hi0 : i = 0
  · subst hi0
    simp only [Nat.beq, cond_true]
    rw [h1, g1, w64 (n := car D16 t 0 + t 0) (by omega) (by omega), Int.tmod_eq_emod_of_nonneg (by omega), w64 (n := 38 * car D16 t 16) (by omega) (by omega), e, w64 (by omega) (by omega)]
  · have hb : Nat.beq i 0 = false := by rw [Bool.eq_false_iff]; exact fun e => hi0 (Nat.eq_of_beq_eq_true e)
    rw [hb]
    simp only [cond_false]
    rw [h1, w64 (by omega) (by omega), Int.tmod_eq_emod_of_nonneg (by omega), e, Int.add_zero]

theorem val_upd0 {B : Int} {f : Nat → Int} {c : Int} {n : Nat} (hn : 0 < n) : val B (fun i => f i + (bif Nat.beq i 0 then c else 0)) n = val B f n + c := by
  induction n with
  | zero => omega
  | succ n ih =>
    simp only [val]
    by_cases h : n = 0
    · subst h
      simp [val, Nat.beq]
    · rw [ih (by omega)]
      have hb : Nat.beq n 0 = false := by rw [Bool.eq_false_iff]; exact fun e => h (Nat.eq_of_beq_eq_true e)
      rw [hb]
      simp only [cond_false, Int.add_zero]
      omega

theorem pass_val (t : Nat → Int) : val D16 (pass t) 16 = val D16 t 16 - 2 * pF * car D16 t 16 := by
  have h := dig_val (B := D16) (t := t) (n := 16)
  have e : val D16 (pass t) 16 = val D16 (dig D16 t) 16 + 38 * car D16 t 16 := val_upd0 (by omega)
  rw [D16p] at h
  rw [e]
  unfold pF
  omega

theorem dig16 (t : Nat → Int) (i : Nat) : 0 ≤ dig D16 t i ∧ dig D16 t i < 65536 := dig_range (by decide) t i

theorem pass_range {t : Nat → Int} {T : Int} (hT : T ≤ 100000000000000) (h : ∀ i, i < 16 → 0 ≤ t i ∧ t i ≤ T) : ∀ i, i < 16 → 0 ≤ pass t i ∧ (0 < i → pass t i < 65536) ∧ pass t i ≤ 65535 + 38 * (T / 65535 + 1) := fun i hi => by
  obtain ⟨g1, g2, g3⟩ := csP_eq hT h (k := 16) (by omega)
  have := dig16 t i
  unfold pass
  by_cases hi0 : i = 0
  · subst hi0
    simp only [Nat.beq, cond_true]
    exact ⟨by omega, fun h => by omega, by omega⟩
  · have hb : Nat.beq i 0 = false := by rw [Bool.eq_false_iff]; exact fun e => hi0 (Nat.eq_of_beq_eq_true e)
    rw [hb]
    simp only [cond_false]
    exact ⟨by omega, fun h => by omega, by omega⟩

/-- A number whose lowest digit alone is too large. -/
theorem low_val {z : Nat → Int} {L : Int} (h0 : 0 ≤ z 0 ∧ z 0 ≤ L) (h : ∀ i, i < 16 → 0 < i → 0 ≤ z i ∧ z i < 65536) : 0 ≤ val D16 z 16 ∧ val D16 z 16 ≤ 115792089237316195423570985008687907853269984665640564039457584007913129639935 - 65535 + L := by
  have e : val D16 z 16 = val D16 z 1 + D16 ^ 1 * val D16 (fun i => z (1 + i)) 15 := val_split (m := 1) (n := 15)
  have hr := val_range (B := D16) (by decide) (d := fun i => z (1 + i)) (n := 15) fun i hi => h (1 + i) (by omega) (by omega)
  have e15 : D16 ^ 15 = 1766847064778384329583297500742918515827483896875618958121606201292619776 := by decide
  have e1 : D16 ^ 1 = 65536 := by decide
  rw [e15] at hr
  rw [val_one] at e
  rw [e, e1]
  omega

theorem first_dig {z : Nat → Int} (hz : ∀ i, i < 16 → 0 ≤ dig D16 z i) : dig D16 z 0 ≤ val D16 (dig D16 z) 16 := by
  have e : val D16 (dig D16 z) 16 = val D16 (dig D16 z) 1 + D16 ^ 1 * val D16 (fun i => dig D16 z (1 + i)) 15 := val_split (m := 1) (n := 15)
  have hr := val_range (B := D16) (by decide) (d := fun i => dig D16 z (1 + i)) (n := 15) fun i hi => dig16 z _
  have e1 : D16 ^ 1 = 65536 := by decide
  rw [val_one] at e
  rw [e, e1]
  omega

/-- Three passes. -/
def pass3 (t : Nat → Int) : Nat → Int := pass (pass (pass t))

theorem pass3_dg {t : Nat → Int} (h : ∀ i, i < 16 → 0 ≤ t i ∧ t i ≤ 100000000000000) : Dg 65536 16 (pass3 t) := by
  have a := pass_range (Int.le_refl _) h
  have hz := low_val (z := pass t) (L := 65535 + 38 * (100000000000000 / 65535 + 1)) ⟨(a 0 (by omega)).1, (a 0 (by omega)).2.2⟩ fun i hi h0 => ⟨(a i hi).1, (a i hi).2.1 h0⟩
  have c1 := car_out (B := D16) (by decide) (t := pass t) (n := 16)
  rw [D16p] at c1
  have f1 := first_dig (z := pass t) fun i _ => (dig16 _ i).1
  -- the second pass carries out at most once, and then its lowest digit is small or its number is
  have b1 : 0 ≤ val D16 (pass (pass t)) 16 ∧ val D16 (pass (pass t)) 16 < 115792089237316195423570985008687907853269984665640564039457584007913129639936 := by
    rw [pass_val]
    unfold pF
    omega
  have bz : ∀ i, i < 16 → 0 ≤ pass (pass t) i := fun i hi => by
    have := dig16 (pass t) i
    have h0 : 0 ≤ car D16 (pass t) 16 := by omega
    show 0 ≤ dig D16 (pass t) i + (bif Nat.beq i 0 then 38 * car D16 (pass t) 16 else 0)
    cases Nat.beq i 0 <;> simp only [cond_true, cond_false] <;> omega
  have c2 := car_out (B := D16) (by decide) (t := pass (pass t)) (n := 16)
  rw [D16p] at c2
  have c0 : car D16 (pass (pass t)) 16 = 0 := by omega
  intro i hi
  have := dig16 (pass (pass t)) i
  have e : pass3 t i = dig D16 (pass (pass t)) i := by
    unfold pass3
    rw [pass, c0]
    cases Nat.beq i 0 <;> simp
  rw [e]
  exact this

theorem pass3_val (t : Nat → Int) : ∃ q, val D16 (pass3 t) 16 = val D16 t 16 + pF * q := by
  refine ⟨- 2 * car D16 t 16 - 2 * car D16 (pass t) 16 - 2 * car D16 (pass (pass t)) 16, ?_⟩
  unfold pass3
  rw [pass_val, pass_val, pass_val]
  grind

theorem pass_congr {s t : Nat → Int} (h : ∀ i, i < 16 → s i = t i) : ∀ i, i < 16 → pass s i = pass t i := fun i hi => by
  unfold pass
  rw [car_congr h, dig_congr fun k hk => h k (by omega)]
theorem csP_congr {s t : Nat → Int} : ∀ {k : Nat}, (∀ i, i < k → s i = t i) → csP s k = csP t k := by
  intro k
  induction k with
  | zero => intro _; rfl
  | succ k ih => intro h; simp only [csP]; rw [ih fun i hi => h i (by omega), h k (by omega)]
theorem passP_congr {s t : Nat → Int} (h : ∀ i, i < 16 → s i = t i) : ∀ i, i < 16 → passP s i = passP t i := fun i hi => by
  unfold passP
  rw [csP_congr h, csP_congr (k := i) fun k hk => h k (by omega), csP_congr (k := 0) (s := s) (t := t) fun k hk => by omega, h i hi, h 0 (by omega)]

theorem passP3_eq {t : Nat → Int} (h : ∀ i, i < 16 → 0 ≤ t i ∧ t i ≤ 100000000000000) : ∀ i, i < 16 → passP (passP (passP t)) i = pass3 t i := fun i hi => by
  have a := pass_range (Int.le_refl _) h
  have ha : ∀ i, i < 16 → 0 ≤ pass t i ∧ pass t i ≤ 58000000000 := fun i hi => by have := a i hi; omega
  have b := pass_range (T := 58000000000) (by omega) ha
  have hb : ∀ i, i < 16 → 0 ≤ pass (pass t) i ∧ pass (pass t) i ≤ 40000000 := fun i hi => by have := b i hi; omega
  unfold pass3
  rw [← passP_eq (T := 40000000) (by omega) hb i hi]
  refine passP_congr (fun k hk => ?_) i hi
  rw [← passP_eq (T := 58000000000) (by omega) ha k hk]
  exact passP_congr (fun m hm => passP_eq (Int.le_refl _) h m hm) k hk

theorem pass3_congr {s t : Nat → Int} (h : ∀ i, i < 16 → s i = t i) : ∀ i, i < 16 → pass3 s i = pass3 t i :=
  pass_congr (pass_congr (pass_congr h))

end Go.Num
