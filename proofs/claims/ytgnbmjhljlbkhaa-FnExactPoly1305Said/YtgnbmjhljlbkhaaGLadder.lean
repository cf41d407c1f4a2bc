/- Sums and differences in five limbs; what is the same modulo 2^255 - 19; the ladder and the power as numbers.
   Conditions: the limbs are in bounds; plain arithmetic. -/
import Derived.Test.YtgnbmjhljlbkhaaGDigits2
set_option linter.unusedVariables false
namespace Go.Num
open Go.Ab

/-- The same modulo the field's prime. -/
def Eqp (a b : Int) : Prop := ∃ q, a = b + pF * q

theorem Eqp.refl (a : Int) : Eqp a a := ⟨0, by simp⟩
theorem Eqp.symm {a b : Int} (h : Eqp a b) : Eqp b a := by obtain ⟨q, h⟩ := h; exact ⟨-q, by rw [h]; grind⟩
theorem Eqp.trans {a b c : Int} (h : Eqp a b) (k : Eqp b c) : Eqp a c := by obtain ⟨q, h⟩ := h; obtain ⟨r, k⟩ := k; exact ⟨q + r, by rw [h, k]; grind⟩
theorem Eqp.add {a b c d : Int} (h : Eqp a b) (k : Eqp c d) : Eqp (a + c) (b + d) := by obtain ⟨q, h⟩ := h; obtain ⟨r, k⟩ := k; exact ⟨q + r, by rw [h, k]; grind⟩
theorem Eqp.sub {a b c d : Int} (h : Eqp a b) (k : Eqp c d) : Eqp (a - c) (b - d) := by obtain ⟨q, h⟩ := h; obtain ⟨r, k⟩ := k; exact ⟨q - r, by rw [h, k]; grind⟩
theorem Eqp.mul {a b c d : Int} (h : Eqp a b) (k : Eqp c d) : Eqp (a * c) (b * d) := by obtain ⟨q, h⟩ := h; obtain ⟨r, k⟩ := k; exact ⟨b * r + q * d + pF * q * r, by rw [h, k]; grind⟩
theorem Eqp.mod {a b : Int} (h : Eqp a b) : a % pF = b % pF := by obtain ⟨q, h⟩ := h; rw [h, Int.add_mul_emod_self_left]
theorem Eqp.of_mod {a b : Int} (h : a % pF = b % pF) : Eqp a b := ⟨a / pF - b / pF, by
  have h1 := Int.mul_ediv_add_emod a pF
  have h2 := Int.mul_ediv_add_emod b pF
  rw [Int.mul_sub]
  omega⟩

def addE (x y : Nat → Int) : Nat → Int := carE fun i => x i + y i
def cS (i : Nat) : Int := bif Nat.beq i 0 then 4503599627370458 else 4503599627370494
def subE (x y : Nat → Int) : Nat → Int := carE fun i => x i + (cS i - carE y i)

theorem addE_bd {x y : Nat → Int} (hx : Bd RB x) (hy : Bd RB y) : Bd RB (addE x y) := carE_rb fun i hi => by have := hx i hi; have := hy i hi; unfold RB at *; omega
theorem cS_range (i : Nat) : 4503599627370458 ≤ cS i ∧ cS i ≤ 4503599627370494 := by unfold cS; cases Nat.beq i 0 <;> simp
theorem sub_bd {x y : Nat → Int} (hx : Bd RB x) (hy : Bd RB y) : Bd 9223372036854775807 (fun i => x i + (cS i - carE y i)) := fun i hi => by
  have := hx i hi
  have := carE_rb (bd_mono (K := RB) (by decide) hy) i hi
  have := cS_range i
  unfold RB at *
  simp only
  omega
theorem subE_bd {x y : Nat → Int} (hx : Bd RB x) (hy : Bd RB y) : Bd RB (subE x y) := carE_rb (sub_bd hx hy)

theorem carE_eqp (x : Nat → Int) : Eqp (val B51 (carE x) 5) (val B51 x 5) := ⟨- car B51 x 5, by rw [carE_val]; grind⟩
theorem addE_eqp (x y : Nat → Int) : Eqp (val B51 (addE x y) 5) (val B51 x 5 + val B51 y 5) := by
  have := carE_eqp fun i => x i + y i
  rwa [val_add] at this
theorem cS_val : val B51 cS 5 = 2 * pF := by decide +kernel
theorem subE_eqp (x y : Nat → Int) : Eqp (val B51 (subE x y) 5) (val B51 x 5 - val B51 y 5) := by
  have h1 := carE_eqp fun i => x i + (cS i - carE y i)
  rw [val_add (t := fun i => cS i - carE y i), val_sub, cS_val] at h1
  have h2 : Eqp (val B51 x 5 + (2 * pF - val B51 (carE y) 5)) (val B51 x 5 + (0 - val B51 y 5)) := (Eqp.refl _).add (Eqp.sub ⟨2, by grind⟩ (carE_eqp y))
  have e : val B51 x 5 + (0 - val B51 y 5) = val B51 x 5 - val B51 y 5 := by omega
  rw [e] at h2
  exact h1.trans h2
theorem mulE_eqp (x y : Nat → Int) : Eqp (val B51 (mulE x y) 5) (val B51 x 5 * val B51 y 5) := mulE_val x y
theorem mulD_eqp (x y : Nat → Int) : Eqp (val D16 (mulD x y) 16) (val D16 x 16 * val D16 y 16) := mulD_val x y
theorem addD_eqp (x y : Nat → Int) : Eqp (val D16 (addD x y) 16) (val D16 x 16 + val D16 y 16) := addD_val x y
theorem subD_eqp (x y : Nat → Int) : Eqp (val D16 (subD x y) 16) (val D16 x 16 - val D16 y 16) := subD_val x y

/-! ### The ladder -/
structure Pt where
  x : Int
  z : Int

def sq (a : Int) : Int := a * a
def dbl (p : Pt) : Pt :=
  let aa := sq (p.x + p.z)
  let bb := sq (p.x - p.z)
  ⟨aa * bb, (aa - bb) * (aa + 121665 * (aa - bb))⟩
def dadd (p q : Pt) (u : Int) : Pt :=
  ⟨sq ((q.x - q.z) * (p.x + p.z) + (q.x + q.z) * (p.x - p.z)), u * sq ((q.x - q.z) * (p.x + p.z) - (q.x + q.z) * (p.x - p.z))⟩

theorem dadd_comm (p q : Pt) (u : Int) : dadd p q u = dadd q p u := by
  simp only [dadd, sq, Pt.mk.injEq]
  constructor <;> grind

/-- The pair of points behind n bits. -/
def lad (b : Nat → Bool) (u : Int) : Nat → Pt × Pt
  | 0 => (⟨1, 0⟩, ⟨u, 1⟩)
  | n + 1 =>
    let p := lad b u n
    if b (254 - n) then (dadd p.1 p.2 u, dbl p.2) else (dbl p.1, dadd p.1 p.2 u)

/-- The power p - 2. -/
def pwr (a : Int) : Nat → Int
  | 0 => 1
  | n + 1 => if n = 252 ∨ n = 250 then pwr a n * pwr a n else pwr a n * pwr a n * a

/-- Bit n of a clamped scalar. -/
def bitF (k : Nat → Int) (n : Nat) : Bool := if n = 255 ∨ n < 3 then false else if n = 254 then true else decide (k (n / 8) / 2 ^ (n % 8) % 2 = 1)

/-- The product, as a number. -/
def smF (k : Nat → Int) (u : Int) : Int := (lad (bitF k) u 255).1.x * pwr (lad (bitF k) u 255).1.z 255

def EqP (p q : Pt) : Prop := Eqp p.x q.x ∧ Eqp p.z q.z

theorem dbl_eqp {p q : Pt} (h : EqP p q) : EqP (dbl p) (dbl q) := by
  have a := (h.1.add h.2).mul (h.1.add h.2)
  have b := (h.1.sub h.2).mul (h.1.sub h.2)
  have e := a.sub b
  exact ⟨a.mul b, e.mul (a.add ((Eqp.refl 121665).mul e))⟩
theorem dadd_eqp {p q p' q' : Pt} {u u' : Int} (h : EqP p p') (k : EqP q q') (hu : Eqp u u') : EqP (dadd p q u) (dadd p' q' u') := by
  have a := (k.1.sub k.2).mul (h.1.add h.2)
  have b := (k.1.add k.2).mul (h.1.sub h.2)
  exact ⟨(a.add b).mul (a.add b), hu.mul ((a.sub b).mul (a.sub b))⟩

theorem lad_eqp {b : Nat → Bool} {u u' : Int} (h : Eqp u u') : ∀ n, EqP (lad b u n).1 (lad b u' n).1 ∧ EqP (lad b u n).2 (lad b u' n).2 := by
  intro n
  induction n with
  | zero => exact ⟨⟨.refl _, .refl _⟩, ⟨h, .refl _⟩⟩
  | succ n ih =>
    simp only [lad]
    split
    · exact ⟨dadd_eqp ih.1 ih.2 h, dbl_eqp ih.2⟩
    · exact ⟨dbl_eqp ih.1, dadd_eqp ih.1 ih.2 h⟩

theorem pwr_eqp {a b : Int} (h : Eqp a b) : ∀ n, Eqp (pwr a n) (pwr b n) := by
  intro n
  induction n with
  | zero => exact .refl _
  | succ n ih =>
    simp only [pwr]
    split
    · exact ih.mul ih
    · exact (ih.mul ih).mul h

end Go.Num
