/- Clamping a scalar, clearing a point's top bit; the ladder depends on its bits alone.
   Conditions: bytes in range; plain arithmetic. -/
import Derived.Test.YtgnbmjhljlbkhaaGLadder
import Derived.Test.YtgnbmjhljlbkhaaGCha4
set_option linter.unusedVariables false
namespace Go.Num
open Go.Ab

theorem byte_all {P : Int → Prop} (h : ∀ a : Fin 256, P (a.val : Int)) {x : Int} (hx : IntKind.u8.has x) : P x := by
  obtain ⟨h1, h2⟩ := has_u8 hx
  obtain ⟨n, rfl⟩ := Int.eq_ofNat_of_zero_le h1
  exact h ⟨n, by omega⟩

theorem and248 {x : Int} (hx : IntKind.u8.has x) : bits .and .u8 x 248 = x / 8 * 8 := byte_all (P := fun x => bits .and .u8 x 248 = x / 8 * 8) (by decide +kernel) hx
theorem and127 {x : Int} (hx : IntKind.u8.has x) : bits .and .u8 x 127 = x % 128 := byte_all (P := fun x => bits .and .u8 x 127 = x % 128) (by decide +kernel) hx
theorem and1 {x : Int} (hx : IntKind.u8.has x) : bits .and .u8 x 1 = x % 2 := byte_all (P := fun x => bits .and .u8 x 1 = x % 2) (by decide +kernel) hx
theorem clamp31 {x : Int} (hx : IntKind.u8.has x) : bits .or .u8 (bits .and .u8 x 127) 64 = x % 64 + 64 := byte_all (P := fun x => bits .or .u8 (bits .and .u8 x 127) 64 = x % 64 + 64) (by decide +kernel) hx

/-- The clamped scalar. -/
def clK (k : Nat → Int) (i : Nat) : Int := bif Nat.beq i 0 then k 0 / 8 * 8 else bif Nat.beq i 31 then k 31 % 64 + 64 else k i
/-- The point without its top bit. -/
def clP (p : Nat → Int) (i : Nat) : Int := bif Nat.beq i 31 then p 31 % 128 else p i

theorem clK_range {k : Nat → Int} (hk : ∀ i, IntKind.u8.has (k i)) (i : Nat) : IntKind.u8.has (clK k i) := by
  have h0 := has_u8 (hk 0); have h31 := has_u8 (hk 31); have hi := has_u8 (hk i)
  show 0 ≤ _ ∧ _ ≤ (255 : Int)
  unfold clK
  cases Nat.beq i 0 <;> cases Nat.beq i 31 <;> simp only [cond_true, cond_false] <;> omega
theorem clP_range {k : Nat → Int} (hk : ∀ i, IntKind.u8.has (k i)) (i : Nat) : IntKind.u8.has (clP k i) := by
  have h31 := has_u8 (hk 31); have hi := has_u8 (hk i)
  show 0 ≤ _ ∧ _ ≤ (255 : Int)
  unfold clP
  cases Nat.beq i 31 <;> simp only [cond_true, cond_false] <;> omega

theorem clP_val {p : Nat → Int} (hp : ∀ i, IntKind.u8.has (p i)) : val 256 (clP p) 32 = val 256 p 32 % 57896044618658097711785492504343953926634992332820282019728792003956564819968 := by
  have e1 : val 256 (clP p) 32 = val 256 (clP p) 31 + clP p 31 * 256 ^ 31 := rfl
  have e2 : val 256 p 32 = val 256 p 31 + p 31 * 256 ^ 31 := rfl
  have e3 : val 256 (clP p) 31 = val 256 p 31 := val_congr fun i hi => by
    have : Nat.beq i 31 = false := by rw [Bool.eq_false_iff]; exact fun e => by have := Nat.eq_of_beq_eq_true e; omega
    simp [clP, this]
  have e4 : clP p 31 = p 31 % 128 := rfl
  have hr := val_range (B := 256) (by decide) (d := p) (n := 31) fun i _ => by have := has_u8 (hp i); omega
  have hB : (256 : Int) ^ 31 = 452312848583266388373324160190187140051835877600158453279131187530910662656 := by decide
  have h31 := has_u8 (hp 31)
  rw [hB] at *
  rw [e1, e2, e3, e4]
  omega

theorem bit_clK {k : Nat → Int} (hk : ∀ i, IntKind.u8.has (k i)) {n : Nat} (hn : n ≤ 254) : decide (clK k (n / 8) / 2 ^ (n % 8) % 2 = 1) = bitF k n := by
  have h0 := has_u8 (hk 0); have h31 := has_u8 (hk 31)
  unfold bitF clK
  by_cases hlo : n / 8 = 0
  · have hb : Nat.beq (n / 8) 0 = true := by rw [hlo]; rfl
    rw [hb]
    simp only [cond_true]
    rw [hlo]
    have e : n % 8 = n := by omega
    rw [e]
    rcases (by omega : n = 0 ∨ n = 1 ∨ n = 2 ∨ n = 3 ∨ n = 4 ∨ n = 5 ∨ n = 6 ∨ n = 7) with rfl | rfl | rfl | rfl | rfl | rfl | rfl | rfl <;> simp <;> omega
  · have hb : Nat.beq (n / 8) 0 = false := by rw [Bool.eq_false_iff]; exact fun e => hlo (Nat.eq_of_beq_eq_true e)
    rw [hb]
    simp only [cond_false]
    rw [if_neg (by omega)]
    by_cases hhi : n / 8 = 31
    · have hb : Nat.beq (n / 8) 31 = true := by rw [hhi]; rfl
      rw [hb]
      simp only [cond_true]
      rw [hhi]
      rcases (by omega : n = 248 ∨ n = 249 ∨ n = 250 ∨ n = 251 ∨ n = 252 ∨ n = 253 ∨ n = 254) with rfl | rfl | rfl | rfl | rfl | rfl | rfl <;> simp <;> omega
    · have hb : Nat.beq (n / 8) 31 = false := by rw [Bool.eq_false_iff]; exact fun e => hhi (Nat.eq_of_beq_eq_true e)
      rw [hb, if_neg (by omega)]
      simp only [cond_false]

theorem lad_congr {b c : Nat → Bool} {u : Int} (h : ∀ n, n ≤ 254 → b n = c n) : ∀ n, lad b u n = lad c u n := by
  intro n
  induction n with
  | zero => rfl
  | succ n ih => simp only [lad, ih, h (254 - n) (by omega)]

end Go.Num
