/- Texts appended one behind the other: what lies in the row, what is asked.
   Conditions: none. -/
import Derived.Test.YtfkdcpinajnbfaaDoorTell
open Go.Ab Go.Num
set_option linter.unusedVariables false
set_option linter.unusedSimpArgs false
namespace Go.Proofs.YtfkdcpinajnbfaaDoor
set_option maxRecDepth 100000
/-- Steps: bytes of an object of their own are appended, bytes of a string are, or something is asked. -/
inductive Stp where
  | ap (T : List UInt8)
  | aps (T : List UInt8)
  | pin (b c : Bool)
  | jn (T : List UInt8) (o : AObj)
def apC (X : List Value) (h : Nat) (T : List UInt8) : List Value := X.take (h * 1) ++ ((tx T).drop 0).take (T.length * 1)
def stC : List Stp → List Value → Nat → List Value
  | [], X, _ => X
  | .ap T :: r, X, h => stC r (apC X h T) (h + T.length)
  | .aps T :: r, X, h => stC r (apC X h T) (h + T.length)
  | .pin _ _ :: r, X, h => stC r X h
  | .jn T _ :: r, X, h => stC r (X ++ tx T) (h + T.length)
def stN : List Stp → Nat → Nat
  | [], h => h
  | .ap T :: r, h => stN r (h + T.length)
  | .aps T :: r, h => stN r (h + T.length)
  | .pin _ _ :: r, h => stN r h
  | .jn T _ :: r, h => stN r (h + T.length)
def jB (X : List Value) (h : Nat) (T : List UInt8) : Bool := decide (X.length = h) && decide (h + T.length ≤ 10000000000000)
def apZ (X : List Value) (l sz : Nat) (Y : List Value) (n m : Nat) : Bool := Nat.beq 0 0 && (Nat.beq 1 1 && (decide (l = l) && (decide (sz = l * 1) && (decide (X.length = sz) && (room (l + n) 1 && (okC true ((Y.drop 0).take (n * 1)) true && (decide (Y.length = m) && (decide (0 + n * 1 ≤ m) && decide (n ≤ n)))))))))
theorem apZ_ok {X : List Value} {l sz : Nat} {Y : List Value} {n m : Nat} (h0 : sz = l) (h1 : X.length = l) (h2 : Y.length = m) (h3 : n ≤ m) (h4 : l + n ≤ 10000000000000) : apZ X l sz Y n m = true := by
  have h5 := room_ok h4
  subst h0
  simp only [apZ, h5, h1, h2, okC, Nat.mul_one, Nat.zero_add, h3, decide_true, Bool.and_self, Bool.true_or, Nat.beq_refl, Nat.le_refl]
def stP : List Stp → List Value → Nat → Nat → Pins
  | [], _, _, _ => []
  | .ap T :: r, X, h, s => (apZ X h s (tx T) T.length T.length, true) :: stP r (apC X h T) (h + T.length) ((h + T.length) * 1)
  | .aps T :: r, X, h, s => (apZ X h s (tx T) T.length T.length, true) :: stP r (apC X h T) (h + T.length) ((h + T.length) * 1)
  | .pin b c :: r, X, h, s => (b, c) :: stP r X h s
  | .jn T _ :: r, X, h, s => (jB X s T, true) :: (decide (h = s), true) :: (decide (h = s), true) :: stP r (X ++ tx T) (s + T.length) (s + T.length)
def stG : List Stp → AHeap
  | [] => []
  | .ap T :: r => some (txO T) :: stG r
  | .aps _ :: r => stG r
  | .pin _ _ :: r => stG r
  | .jn _ o :: r => some o :: stG r
def stT : List Stp → List UInt8
  | [] => []
  | .ap T :: r => T ++ stT r
  | .aps T :: r => T ++ stT r
  | .pin _ _ :: r => stT r
  | .jn T _ :: r => T ++ stT r
def stOk : List Stp → Prop
  | [] => True
  | .ap _ :: r => stOk r
  | .aps _ :: r => stOk r
  | .pin b c :: r => b = c ∧ stOk r
  | .jn _ _ :: r => stOk r
theorem apC_eq (l T : List UInt8) : apC (tx l) l.length T = tx (l ++ T) := by
  unfold apC; rw [tx_take0, tx_take, tx_append]
theorem stC_eq : ∀ (r : List Stp) (l : List UInt8), stC r (tx l) l.length = tx (l ++ stT r) := by
  intro r
  induction r with
  | nil => intro l; simp [stC, stT]
  | cons s r ih =>
    intro l
    cases s with
    | ap T => simp only [stC, stT]; rw [apC_eq, ← List.length_append, ih, List.append_assoc]
    | aps T => simp only [stC, stT]; rw [apC_eq, ← List.length_append, ih, List.append_assoc]
    | pin b c => simp only [stC, stT]; exact ih l
    | jn T o => simp only [stC, stT]; rw [← tx_append, ← List.length_append, ih, List.append_assoc]
theorem stN_eq : ∀ (r : List Stp) (l : List UInt8), stN r l.length = (l ++ stT r).length := by
  intro r
  induction r with
  | nil => intro l; simp [stN, stT]
  | cons s r ih =>
    intro l
    cases s with
    | ap T => simp only [stN, stT]; rw [← List.length_append, ih, List.append_assoc]
    | aps T => simp only [stN, stT]; rw [← List.length_append, ih, List.append_assoc]
    | pin b c => simp only [stN, stT]; exact ih l
    | jn T o => simp only [stN, stT]; rw [← List.length_append, ih, List.append_assoc]
theorem stP_held : ∀ (r : List Stp) (l : List UInt8) (s : Nat), s = l.length → stOk r → (l ++ stT r).length ≤ 10000000000000 → Held (stP r (tx l) l.length s) := by
  intro r
  induction r with
  | nil => intro l s _ _ _; exact held_nil
  | cons s r ih =>
    intro l sz hs hok hl
    cases s with
    | ap T =>
      simp only [stP, stT] at hl ⊢
      rw [apC_eq, ← List.length_append]
      refine held_cons (apZ_ok hs (tx_length _) (tx_length _) (Nat.le_refl _) ?_) (ih _ _ (Nat.mul_one _) hok (by rw [List.append_assoc]; exact hl))
      simp only [List.length_append] at hl; omega
    | aps T =>
      simp only [stP, stT] at hl ⊢
      rw [apC_eq, ← List.length_append]
      refine held_cons (apZ_ok hs (tx_length _) (tx_length _) (Nat.le_refl _) ?_) (ih _ _ (Nat.mul_one _) hok (by rw [List.append_assoc]; exact hl))
      simp only [List.length_append] at hl; omega
    | pin b c => exact held_cons hok.1 (ih l sz hs hok.2 hl)
    | jn T o =>
      simp only [stP, stT] at hl ⊢
      have h1 : l.length + T.length ≤ 10000000000000 := by simp only [List.length_append] at hl; omega
      subst hs
      rw [← tx_append, ← List.length_append]
      refine held_cons ?_ (held_cons (decide_eq_true rfl) (held_cons (decide_eq_true rfl) (ih _ _ rfl hok (by rw [List.append_assoc]; exact hl))))
      simp only [jB, tx_length, decide_true, Bool.true_and, decide_eq_true_eq]
      exact h1

def eqZ (x : Nat → Int) : List Nat → Bool
  | [] => true
  | i :: r => (x i == 0) && eqZ x r
def isZ32 (x : Nat → Int) : Bool := eqZ x (List.range 32)
end Go.Proofs.YtfkdcpinajnbfaaDoor
