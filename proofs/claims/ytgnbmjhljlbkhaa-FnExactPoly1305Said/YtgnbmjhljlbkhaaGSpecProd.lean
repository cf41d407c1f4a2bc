/- The specification's product, digit by digit: what one round of its double loop does.
   Conditions: none. -/
import Derived.Test.YtgnbmjhljlbkhaaGSpecPoly2
set_option linter.unusedVariables false
namespace Go.Num
open Go.Ab

def liveB : List Nat := [1, 2, 4, 9, 5, 10, 12, 95, 96, 97, 13, 14, 102, 103, 104]
def liveA : List Nat := [1, 2, 4, 9, 5, 10, 12, 95, 96, 97]
def offB (i j : Int) : Nat := 0 + (IntKind.i64.wrap (i + j)).toNat * 1
def mulAt (r t : Nat → Int) (i x j : Int) : Int := IntKind.i64.wrap (vint (atC (cellsI .i64 40 t) (offB i j)) + IntKind.i64.wrap (x * vint (atC (cellsI .i64 16 r) (0 + j.toNat * 1))))
def prodPins (r t : Nat → Int) (i j : Int) : Pins :=
  [(decide (j < 16), true), (inB j 16, true), (ldB .i64 ⟨cellsI .i64 16 r, true, 1, true⟩ 16 (0 + j.toNat * 1), true),
   (inB (IntKind.i64.wrap (i + j)) 40, true), (ldB .i64 ⟨cellsI .i64 40 t, true, 1, true⟩ 40 (offB i j), true), (inB (IntKind.i64.wrap (i + j)) 40, true), (stB ⟨cellsI .i64 40 t, true, 1, true⟩ 40 (offB i j) 1, true)]

theorem wr_cellsI {k : IntKind} {n : Nat} {t : Nat → Int} {i : Nat} {v : Int} (hi : i < n) : wr (cellsI k n t) i [.int k v] = cellsI k n (upd t i v) := by
  apply List.ext_getElem (by rw [wr_length, cellsI_length, cellsI_length])
  intro j h1 h2
  have hj : j < n := by rw [cellsI_length] at h2; exact h2
  have e := atC_wr (l := cellsI k n t) (i := i) (j := j) (v := .int k v) (by rw [cellsI_length]; exact hi)
  have a1 : atC (wr (cellsI k n t) i [.int k v]) j = (wr (cellsI k n t) i [.int k v])[j] := by simp [atC, h1]
  rw [← a1, e]
  by_cases hji : j = i
  · subst hji; simp [cellsI, upd_self]
  · rw [if_neg hji]
    simp [atC, cellsI, hj, upd_ne hji]

theorem offB_eq {i j : Nat} (h : i + j < 40) : offB (i : Int) (j : Int) = i + j := by
  unfold offB
  rw [wrap_i64 (by omega) (by omega)]
  omega

theorem mulAt_eq {r t : Nat → Int} {i j : Nat} {x : Int} (hi : i < 19) (hj : j < 16) : mulAt r t i x j = IntKind.i64.wrap (t (i + j) + IntKind.i64.wrap (x * r j)) := by
  unfold mulAt
  rw [offB_eq (by omega)]
  have e1 : vint (atC (cellsI .i64 40 t) (i + j)) = t (i + j) := wd_cellsI (k := .i64) (x := t) (by omega)
  have e2 : vint (atC (cellsI .i64 16 r) (0 + (j : Int).toNat * 1)) = r j := by
    rw [show 0 + (j : Int).toNat * 1 = j by omega]
    exact wd_cellsI (k := .i64) (x := r) hj
  rw [e1, e2]

theorem ld_cells {n : Nat} {t : Nat → Int} {g : Bool} {e i : Nat} (hi : i < n) : ldB .i64 ⟨cellsI .i64 n t, g, e, true⟩ n i = true := by
  simp [ldB, cellsI_length, atC, cellsI, hi, isI]

theorem prodPins_held {r t : Nat → Int} {i j : Nat} (hi : i < 19) (hj : j < 16) : Held (prodPins r t i j) := by
  have ei : inB (IntKind.i64.wrap ((i : Int) + j)) 40 = true := inB_iff.2 (by rw [wrap_i64 (by omega) (by omega)]; omega)
  refine held_cons (by rw [decide_eq_true_eq]; omega) (held_cons (inB_iff.2 (by omega)) (held_cons ?_ (held_cons ei (held_cons ?_ (held_cons ei (held_one ?_))))))
  · rw [show 0 + (j : Int).toNat * 1 = j by omega]; exact ld_cells hj
  · rw [offB_eq (by omega)]; exact ld_cells (by omega)
  · rw [offB_eq (by omega)]
    simp [stB, cellsI_length]
    omega

theorem convI_const {w : Int → Int} {x y : Nat → Int} {i : Nat} : ∀ {j : Nat} {t : Nat → Int}, convI w (fun _ => x i) y i j t = convI w x y i j t := by
  intro j
  induction j with
  | zero => intro t; rfl
  | succ j ih => intro t; simp only [convI, ih]

theorem convI_congr {w : Int → Int} {x x' y y' : Nat → Int} {i N : Nat} (hx : x i = x' i) : ∀ {j : Nat} {t t' : Nat → Int}, (∀ k, k < j → y k = y' k) → (∀ k, k < N → t k = t' k) → i + j ≤ N + 0 → ∀ k, k < N → convI w x y i j t k = convI w x' y' i j t' k := by
  intro j
  induction j with
  | zero => intro t t' _ ht _ k hk; exact ht k hk
  | succ j ih =>
    intro t t' hy ht hN k hk
    have h1 := ih (fun k hk => hy k (by omega)) ht (by omega)
    simp only [convI, upd]
    rw [h1 k hk, h1 (i + j) (by omega), hx, hy j (by omega)]

def cellB (n : Nat) (A : List Value) : Bool := Nat.beq A.length n && A.all (isI .i64)
theorem cellB_eq {n : Nat} {A : List Value} (h : cellB n A = true) : A = cellsI .i64 n (wd A) := by
  simp only [cellB, Bool.and_eq_true] at h
  have := cellsI_wd h.2
  rwa [Nat.eq_of_beq_eq_true h.1] at this

theorem cellB_cells (n : Nat) (x : Nat → Int) : cellB n (cellsI .i64 n x) = true := by
  unfold cellB
  rw [cellsI_length, Nat.beq_refl, Bool.true_and, List.all_eq_true]
  intro v hv
  simp only [cellsI, List.mem_map, List.mem_range] at hv
  obtain ⟨i, _, rfl⟩ := hv
  rfl

/-- Zeros. -/
def zeroC (n : Nat) (A : List Value) : Bool := cellB n A && (List.range n).all fun k => decide (wd A k = 0)
theorem zeroC_eq {n : Nat} {A : List Value} (h : zeroC n A = true) : A = cellsI .i64 n (fun _ => 0) := by
  simp only [zeroC, Bool.and_eq_true, List.all_eq_true, List.mem_range, decide_eq_true_eq] at h
  have := cellB_eq h.1
  rw [cellsI_congr (fun i hi => h.2 i hi)] at this
  exact this

end Go.Num
