/- The stream's words: adding, turning, a quarter, the rounds; that both ways to turn, to read and to write words agree.
   Conditions: none; plain arithmetic. -/
import Derived.Test.YtgnbmjhljlbkhaaGBits
set_option linter.unusedVariables false
namespace Go.Num
open Go.Ab

def add32 (a b : Int) : Int := IntKind.wrap .u32 (a + b)
def xor32 (a b : Int) : Int := bits .xor .u32 a b
/-- Turned left by k. -/
def rot32 (k : Nat) (x : Int) : Int := x % 2 ^ (32 - k) * 2 ^ k + x / 2 ^ (32 - k)

theorem xor32_range (a b : Int) : IntKind.u32.has (xor32 a b) := bits_range32 _ _ _
theorem add32_range (a b : Int) : IntKind.u32.has (add32 a b) := by rw [add32, wrap_u32]; show 0 ≤ _ ∧ _ ≤ (4294967295 : Int); omega

/-- As the library's text turns. -/
def rotI (k : Nat) (x : Int) : Int := bits .or .u32 (IntKind.wrap .u32 (x * 2 ^ min (IntKind.u64.wrap (bits .and .u64 (IntKind.u64.wrap k) 31)).toNat 32)) (x.fdiv (2 ^ min (IntKind.u64.wrap (32 - bits .and .u64 (IntKind.u64.wrap k) 31)).toNat 32))

def Turns (k : Nat) : Prop := k = 16 ∨ k = 12 ∨ k = 8 ∨ k = 7

theorem rotL_eq {k : Nat} (hk : Turns k) {x : Int} (h : IntKind.u32.has x) : bits .or .u32 (IntKind.wrap .u32 (x * 2 ^ k)) (x.fdiv (2 ^ (32 - k))) = rot32 k x := by
  obtain ⟨h1, h2⟩ := has_u32 h
  rw [Int.fdiv_eq_ediv_of_nonneg _ (Int.le_of_lt (Int.pow_pos (by omega)))]
  have e : IntKind.wrap .u32 (x * 2 ^ k) = x % 2 ^ (32 - k) * 2 ^ k := by
    rw [wrap_u32]
    rcases hk with rfl | rfl | rfl | rfl <;> simp only [Nat.reduceSub, Int.reducePow] <;> omega
  rw [e, rot32]
  refine or_add32 (Int.emod_nonneg _ (Int.ne_of_gt (Int.pow_pos (by omega)))) ?_ (Int.ediv_nonneg h1 (Int.le_of_lt (Int.pow_pos (by omega)))) ?_ ?_
  all_goals rcases hk with rfl | rfl | rfl | rfl <;> simp only [Nat.reduceSub, Int.reducePow] <;> omega

theorem rotR_eq {k : Nat} (hk : Turns k) {x : Int} (h : IntKind.u32.has x) :
    IntKind.u32.wrap (IntKind.u32.wrap (x.tdiv (IntKind.u32.wrap (1 * 2 ^ (32 - k)))) + IntKind.u32.wrap (x.tmod (IntKind.u32.wrap (1 * 2 ^ (32 - k))) * IntKind.u32.wrap (1 * 2 ^ k))) = rot32 k x := by
  obtain ⟨h1, h2⟩ := has_u32 h
  rw [Int.tdiv_eq_ediv_of_nonneg h1, Int.tmod_eq_emod_of_nonneg h1]
  simp only [wrap_u32, rot32]
  rcases hk with rfl | rfl | rfl | rfl <;> simp only [Nat.reduceSub, Int.reducePow, Int.one_mul, Int.reduceMod] <;> omega

/-- A quarter at four places. -/
def qF (x : Nat → Int) (a b c d : Nat) : Nat → Int :=
  let x1 := upd x a (add32 (x a) (x b))
  let x2 := upd x1 d (rot32 16 (xor32 (x1 d) (x1 a)))
  let x3 := upd x2 c (add32 (x2 c) (x2 d))
  let x4 := upd x3 b (rot32 12 (xor32 (x3 b) (x3 c)))
  let x5 := upd x4 a (add32 (x4 a) (x4 b))
  let x6 := upd x5 d (rot32 8 (xor32 (x5 d) (x5 a)))
  let x7 := upd x6 c (add32 (x6 c) (x6 d))
  upd x7 b (rot32 7 (xor32 (x7 b) (x7 c)))

def quads : List (Nat × Nat × Nat × Nat) := [(0, 4, 8, 12), (1, 5, 9, 13), (2, 6, 10, 14), (3, 7, 11, 15), (0, 5, 10, 15), (1, 6, 11, 12), (2, 7, 8, 13), (3, 4, 9, 14)]
def quadB (a b c d : Int) : Bool := (decide (a = 0) && decide (b = 4) && decide (c = 8) && decide (d = 12)) || (decide (a = 1) && decide (b = 5) && decide (c = 9) && decide (d = 13)) || (decide (a = 2) && decide (b = 6) && decide (c = 10) && decide (d = 14)) ||
  (decide (a = 3) && decide (b = 7) && decide (c = 11) && decide (d = 15)) || (decide (a = 0) && decide (b = 5) && decide (c = 10) && decide (d = 15)) || (decide (a = 1) && decide (b = 6) && decide (c = 11) && decide (d = 12)) ||
  (decide (a = 2) && decide (b = 7) && decide (c = 8) && decide (d = 13)) || (decide (a = 3) && decide (b = 4) && decide (c = 9) && decide (d = 14))

/-- The words that stand in these cells. -/
def wd (cells : List Value) : Nat → Int := fun i => vint (atC cells i)

def isW (cells : List Value) : Bool := Nat.beq cells.length 16 && cells.all (isI .u32)

theorem cellsI_wd {k : IntKind} {cells : List Value} (h : cells.all (isI k) = true) : cells = cellsI k cells.length (wd cells) := by
  apply List.ext_getElem (by simp [cellsI])
  intro i h1 h2
  have := isI_eq (List.all_eq_true.1 h _ (List.getElem_mem h1))
  rw [this]
  simp [cellsI, wd, atC, h1]

theorem wd_cellsI {k : IntKind} {n : Nat} {x : Nat → Int} {i : Nat} (hi : i < n) : wd (cellsI k n x) i = x i := by
  simp [wd, atC, cellsI, hi, vint]

/-- A quarter of cells. -/
def qC (cells : List Value) (q : Nat × Nat × Nat × Nat) : List Value := cellsI .u32 16 (qF (wd cells) q.1 q.2.1 q.2.2.1 q.2.2.2)

def roundsC (cells : List Value) : List Value := (quads ++ quads ++ quads ++ quads ++ quads ++ quads ++ quads ++ quads ++ quads ++ quads).foldl qC cells

/-- Four bytes as a word, as the program reads them. -/
def wordI (b0 b1 b2 b3 : Int) : Int := bits .or .u32 (bits .or .u32 (bits .or .u32 (bits .or .u32 0 (IntKind.u32.wrap (IntKind.u32.wrap b3 * 2 ^ 24))) (IntKind.u32.wrap (IntKind.u32.wrap b2 * 2 ^ 16))) (IntKind.u32.wrap (IntKind.u32.wrap b1 * 2 ^ 8))) (IntKind.u32.wrap b0)
/-- And as the specification does. -/
def wordS (b0 b1 b2 b3 : Int) : Int := IntKind.u32.wrap (IntKind.u32.wrap (IntKind.u32.wrap (IntKind.u32.wrap (IntKind.u32.wrap (IntKind.u32.wrap (IntKind.u32.wrap (IntKind.u32.wrap (0 * 256) + IntKind.u32.wrap b3) * 256) + IntKind.u32.wrap b2) * 256) + IntKind.u32.wrap b1) * 256) + IntKind.u32.wrap b0)
def word (b0 b1 b2 b3 : Int) : Int := b0 + 256 * b1 + 65536 * b2 + 16777216 * b3

theorem wordS_eq {b0 b1 b2 b3 : Int} (h0 : IntKind.u8.has b0) (h1 : IntKind.u8.has b1) (h2 : IntKind.u8.has b2) (h3 : IntKind.u8.has b3) : wordS b0 b1 b2 b3 = word b0 b1 b2 b3 := by
  have := has_u8 h0; have := has_u8 h1; have := has_u8 h2; have := has_u8 h3
  simp only [wordS, word, wrap_u32]
  omega

theorem wordI_eq {b0 b1 b2 b3 : Int} (h0 : IntKind.u8.has b0) (h1 : IntKind.u8.has b1) (h2 : IntKind.u8.has b2) (h3 : IntKind.u8.has b3) : wordI b0 b1 b2 b3 = word b0 b1 b2 b3 := by
  have := has_u8 h0; have := has_u8 h1; have := has_u8 h2; have := has_u8 h3
  have e0 : IntKind.u32.wrap b0 = b0 := by rw [wrap_u32]; omega
  have e1 : IntKind.u32.wrap (IntKind.u32.wrap b1 * 2 ^ 8) = b1 * 2 ^ 8 := by simp only [wrap_u32, Int.reducePow]; omega
  have e2 : IntKind.u32.wrap (IntKind.u32.wrap b2 * 2 ^ 16) = b2 * 2 ^ 16 := by simp only [wrap_u32, Int.reducePow]; omega
  have e3 : IntKind.u32.wrap (IntKind.u32.wrap b3 * 2 ^ 24) = b3 * 2 ^ 24 := by simp only [wrap_u32, Int.reducePow]; omega
  have z : bits .or .u32 0 (b3 * 2 ^ 24) = b3 * 2 ^ 24 := by
    rw [or_comm32, or_add32 (by omega) (by omega) (by omega) (by omega) (by omega)]; omega
  have r1 : bits .or .u32 (b3 * 2 ^ 24) (b2 * 2 ^ 16) = (b3 * 256 + b2) * 2 ^ 16 := by
    rw [or_add32 (by omega) (by omega) (by omega) (by omega) (by omega)]; omega
  have r2 : bits .or .u32 ((b3 * 256 + b2) * 2 ^ 16) (b1 * 2 ^ 8) = (b3 * 65536 + b2 * 256 + b1) * 2 ^ 8 := by
    rw [or_add32 (by omega) (by omega) (by omega) (by omega) (by omega)]; omega
  have r3 : bits .or .u32 ((b3 * 65536 + b2 * 256 + b1) * 2 ^ 8) b0 = word b0 b1 b2 b3 := by
    rw [or_add32 (by omega) (by omega) (by omega) (by omega) (by omega)]; unfold word; omega
  unfold wordI
  rw [e0, e1, e2, e3, z, r1, r2, r3]

end Go.Num
