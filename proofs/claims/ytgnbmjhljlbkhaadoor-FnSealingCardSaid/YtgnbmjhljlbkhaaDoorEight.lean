/- spec.l2Eight.
   Conditions: none. -/
import Derived.Test.YtgnbmjhljlbkhaaDoorJoin
open Go.Ab Go.Num
set_option linter.unusedVariables false
set_option linter.unusedSimpArgs false
namespace Go.Proofs.YtgnbmjhljlbkhaaDoor

def qE (n : Int) : Nat → Int
  | 0 => n
  | k + 1 => IntKind.i64.wrap ((qE n k).tdiv 256)
def eE (n : Int) (k : Nat) : Int := IntKind.u8.wrap ((qE n k).tmod 256)
set_option maxRecDepth 100000 in
theorem r62 (M : Mem) (n : Int) : evFU Tryd.prog M (ovX Tryd.prog M) [] [] [] [] 300 Tryd.f62 [.int .i64 n] [] []
   = some ((.slice (some ⟨0, 0, some 8⟩) 8 8, [], [⟨cellsI .u8 8 (eE n), true, 1, true⟩]), []) := by kernel_rfl

/-- A length in eight bytes, the lowest first. -/
def eightF (n : Nat) (k : Nat) : Int := (n : Int) / 256 ^ k % 256
theorem qE_eq {n : Nat} (hn : n ≤ 4611686018427387904) : ∀ k, qE n k = (n : Int) / 256 ^ k ∧ 0 ≤ qE n k ∧ qE n k ≤ 4611686018427387904 := by
  intro k
  induction k with
  | zero => simp [qE]; omega
  | succ k ih =>
    obtain ⟨a, b, c⟩ := ih
    simp only [qE]
    rw [Int.tdiv_eq_ediv_of_nonneg b, Ab.wrap_i64 (by omega) (by omega)]
    refine ⟨?_, by omega, by omega⟩
    rw [a, Int.pow_succ, Int.ediv_ediv_of_nonneg (Int.le_of_lt (Int.pow_pos (by decide)))]
theorem eE_eq {n : Nat} (hn : n ≤ 4611686018427387904) (k : Nat) : eE n k = eightF n k := by
  obtain ⟨a, b, c⟩ := qE_eq hn k
  unfold eE eightF
  rw [Int.tmod_eq_emod_of_nonneg b, wrap_u8, ← a]
  omega

end Go.Proofs.YtgnbmjhljlbkhaaDoor
