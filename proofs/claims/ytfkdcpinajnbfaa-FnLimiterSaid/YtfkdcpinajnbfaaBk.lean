/- Buckets and the limiter's entries as lists of numbers.
   Conditions: none. -/
import Derived.Test.YtfkdcpinajnbfaaBase
import Derived.Test.YtfkdcpinajnbfaaAbD
open Go.Ab
set_option linter.unusedVariables false
set_option linter.unusedSimpArgs false
namespace Go.Proofs.Ytfkdcpinajnbfaa

structure Key where
  a0 : Int
  a1 : Int
  a2 : Int
  a3 : Int
  a4 : Int
  a5 : Int
  a6 : Int
  a7 : Int
  a8 : Int
  deriving DecidableEq

structure Bk where
  k : Key
  tok : Int
  last : Int
  deriving DecidableEq

def kc (k : Key) : List Value := [.int .u8 k.a0, .int .u8 k.a1, .int .u8 k.a2, .int .u8 k.a3, .int .u8 k.a4, .int .u8 k.a5, .int .u8 k.a6, .int .u8 k.a7, .int .u8 k.a8]
def kv (k : Key) : Value := .agg ⟨kc k⟩
def bc (b : Bk) : List Value := [.int .u8 b.k.a0, .int .u8 b.k.a1, .int .u8 b.k.a2, .int .u8 b.k.a3, .int .u8 b.k.a4, .int .u8 b.k.a5, .int .u8 b.k.a6, .int .u8 b.k.a7, .int .u8 b.k.a8, .int .i64 b.tok, .int .i64 b.last]
def ec (b : Bk) (n : Int) : List Value := [.int .u8 b.k.a0, .int .u8 b.k.a1, .int .u8 b.k.a2, .int .u8 b.k.a3, .int .u8 b.k.a4, .int .u8 b.k.a5, .int .u8 b.k.a6, .int .u8 b.k.a7, .int .u8 b.k.a8, .int .i64 b.tok, .int .i64 b.last, .int .i64 n]
def rowsL (L : List Bk) : List Value := L.flatMap bc

/-- The bucket whose cells begin here. -/
def bkAt (R : List Value) (off : Nat) : Bk :=
  ⟨⟨vint (atC R off), vint (atC R (off + 1)), vint (atC R (off + 2)), vint (atC R (off + 3)), vint (atC R (off + 4)), vint (atC R (off + 5)), vint (atC R (off + 6)), vint (atC R (off + 7)), vint (atC R (off + 8))⟩, vint (atC R (off + 9)), vint (atC R (off + 10))⟩

def shBk : List Shp := [.int .u8, .int .u8, .int .u8, .int .u8, .int .u8, .int .u8, .int .u8, .int .u8, .int .u8, .int .i64, .int .i64]
def shT : Nat → Option (List Shp) := fun t => if Nat.beq t 46 then some shBk else none

theorem rowsL_length (L : List Bk) : (rowsL L).length = L.length * 11 := by
  unfold rowsL
  induction L with
  | nil => rfl
  | cons b L ih => rw [List.flatMap_cons, List.length_append, ih, List.length_cons, Nat.succ_mul, Nat.add_comm]; rfl

theorem rowsL_drop : ∀ (L : List Bk) (i : Nat) {b : Bk}, L[i]? = some b → ∃ r, (rowsL L).drop (i * 11) = bc b ++ r := by
  intro L
  induction L with
  | nil => intro i b h; simp at h
  | cons c L ih =>
    intro i b h
    cases i with
    | zero => simp at h; subst h; exact ⟨rowsL L, rfl⟩
    | succ i =>
      obtain ⟨r, hr⟩ := ih i (by simpa using h)
      refine ⟨r, ?_⟩
      have : rowsL (c :: L) = bc c ++ rowsL L := rfl
      rw [this, Nat.succ_mul, Nat.add_comm, ← List.drop_drop, List.drop_left' (show (bc c).length = 11 from rfl)]
      exact hr

theorem atC_drop {R : List Value} {off j : Nat} : atC R (off + j) = atC (R.drop off) j := by simp [atC, List.getElem?_drop]

theorem rows_at {L : List Bk} {i : Nat} {b : Bk} (h : L[i]? = some b) (j : Nat) (hj : j < 11) : atC (rowsL L) (0 + i * 11 + j) = atC (bc b) j := by
  obtain ⟨r, hr⟩ := rowsL_drop L i h
  rw [Nat.zero_add, atC_drop, hr]
  unfold atC
  rw [List.getElem?_append_left (by exact hj)]

theorem bkAt_rows {L : List Bk} {i : Nat} {b : Bk} (h : L[i]? = some b) : bkAt (rowsL L) (0 + i * 11) = b := by
  unfold bkAt
  have h0 := rows_at h 0 (by decide)
  rw [Nat.add_zero] at h0
  rw [h0, rows_at h 1 (by decide), rows_at h 2 (by decide), rows_at h 3 (by decide), rows_at h 4 (by decide), rows_at h 5 (by decide), rows_at h 6 (by decide), rows_at h 7 (by decide), rows_at h 8 (by decide), rows_at h 9 (by decide), rows_at h 10 (by decide)]
  rfl

theorem shp_rows {L : List Bk} {i : Nat} {b : Bk} (h : L[i]? = some b) : shpB (rowsL L) (0 + i * 11) shBk = true := by
  have h0 := rows_at h 0 (by decide)
  rw [Nat.add_zero] at h0
  unfold shBk
  simp only [shpB, Nat.add_assoc (0 + i * 11)]
  rw [h0, rows_at h 1 (by decide), rows_at h (1 + 1) (by decide), rows_at h (1 + (1 + 1)) (by decide), rows_at h (1 + (1 + (1 + 1))) (by decide), rows_at h (1 + (1 + (1 + (1 + 1)))) (by decide), rows_at h (1 + (1 + (1 + (1 + (1 + 1))))) (by decide), rows_at h (1 + (1 + (1 + (1 + (1 + (1 + 1)))))) (by decide), rows_at h (1 + (1 + (1 + (1 + (1 + (1 + (1 + 1))))))) (by decide), rows_at h (1 + (1 + (1 + (1 + (1 + (1 + (1 + (1 + 1)))))))) (by decide), rows_at h (1 + (1 + (1 + (1 + (1 + (1 + (1 + (1 + (1 + 1))))))))) (by decide)]
  rfl

theorem shp_row_len {L : List Bk} {i : Nat} {b : Bk} (h : L[i]? = some b) : 0 + i * 11 + 11 ≤ L.length * 11 := by
  have := (List.getElem?_eq_some_iff.1 h).1
  omega

end Go.Proofs.Ytfkdcpinajnbfaa
