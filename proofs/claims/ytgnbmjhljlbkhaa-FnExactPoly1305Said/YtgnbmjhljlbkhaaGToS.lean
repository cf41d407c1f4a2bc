/- A copy of a slice of bytes, made cell by cell: its contract.
   Conditions: bytes in range. -/
import Derived.Test.YtgnbmjhljlbkhaaGSpecPoly4
set_option linter.unusedVariables false
namespace Go.Num
open Go.Ab

def liveT : List Nat := [0, 3, 4]
/-- Bytes of the read-only memory. -/
def roN (M : Mem) (b off : Nat) (i : Nat) : Int := vint ((M b (off + i)).getD undef)
def roAll (M : Mem) (b off n : Nat) : Bool := decide (n ≤ 281474976710656) && (List.range n).all fun i => roB .u8 M b (off + i)
theorem roAll_iff {M : Mem} {b off n : Nat} : roAll M b off n = true ↔ n ≤ 281474976710656 ∧ ∀ i, i < n → roB .u8 M b (off + i) = true := by
  simp only [roAll, Bool.and_eq_true, decide_eq_true_eq, List.all_eq_true, List.mem_range]
/-- The first i are copied. -/
def cpF (x : Nat → Int) (i j : Nat) : Int := bif Nat.blt j i then x j else 0
theorem cpF_step {x : Nat → Int} {n i : Nat} (hi : i < n) : wr (cellsI .u8 n (cpF x i)) i [.int .u8 (x i)] = cellsI .u8 n (cpF x (i + 1)) := by
  rw [wr_cellsI hi]
  refine cellsI_congr fun j hj => ?_
  by_cases h : j = i
  · subst h
    have : Nat.blt j (j + 1) = true := Nat.blt_eq.mpr (by omega)
    simp [upd_self, cpF, this]
  · rw [upd_ne h]
    have : Nat.blt j (i + 1) = Nat.blt j i := by
      cases h1 : Nat.blt j i with
      | true => have := Nat.blt_eq.mp h1; exact Nat.blt_eq.mpr (by omega)
      | false =>
        rw [Bool.eq_false_iff]
        intro e
        have := Nat.blt_eq.mp e
        rw [Bool.eq_false_iff] at h1
        exact h1 (Nat.blt_eq.mpr (by omega))
    simp [cpF, this]
theorem cpF_all {x : Nat → Int} {n : Nat} : cellsI .u8 n (cpF x n) = cellsI .u8 n x := cellsI_congr fun j hj => by
  have : Nat.blt j n = true := Nat.blt_eq.mpr hj
  simp [cpF, this]
theorem cpF_zero {x : Nat → Int} {n : Nat} : zcells [.int .u8 0] n = cellsI .u8 n (cpF x 0) := by
  rw [zcells_one]
  apply List.ext_getElem (by simp [cellsI])
  intro i h1 h2
  have hb : Nat.blt i 0 = false := by rw [Bool.eq_false_iff]; exact fun e => absurd (Nat.blt_eq.mp e) (Nat.not_lt_zero i)
  simp [cellsI, cpF, hb]

def isZ (n : Nat) (x : List Value) : Bool := Nat.beq x.length n && x.all fun v => isI .u8 v && decide (vint v = 0)
theorem isZ_eq {n : Nat} {x : List Value} (h : isZ n x = true) (y : Nat → Int) : x = cellsI .u8 n (cpF y 0) := by
  simp only [isZ, Bool.and_eq_true, List.all_eq_true, decide_eq_true_eq] at h
  have hl := Nat.eq_of_beq_eq_true h.1
  apply List.ext_getElem (by simp [cellsI, hl])
  intro i h1 h2
  obtain ⟨a, b⟩ := h.2 _ (List.getElem_mem h1)
  rw [isI_eq a, b]
  have hb : Nat.blt i 0 = false := by rw [Bool.eq_false_iff]; exact fun e => absurd (Nat.blt_eq.mp e) (Nat.not_lt_zero i)
  simp [cellsI, cpF, hb]
theorem isZ_zero (n : Nat) : isZ n (zcells [.int .u8 0] n) = true := by
  rw [zcells_one]
  unfold isZ
  rw [List.length_replicate, Nat.beq_refl, Bool.true_and, List.all_eq_true]
  intro v hv
  rw [(List.mem_replicate.1 hv).2]
  rfl

/-- Bytes that lie in an object. -/
def byAll (cells : List Value) (s f n c : Nat) : Bool := decide (n ≤ 281474976710656) && dataB cells s f n c

def toSum (M : Mem) (fn : FuncId) : Sum :=
  { f := fn, ro := true
    S := fun args os => match args, os with
      | [.slice none 0 0], [] => some (.slice (some ⟨0, 0, some 0⟩) 0 0, [], [⟨[], true, 1, true⟩])
      | [.slice (some ⟨b, off, none⟩) n c], [] => some (.slice (some ⟨0, 0, some n⟩) n n, [], [⟨cellsI .u8 n (roN M b off), true, 1, true⟩])
      | [.slice (some ⟨0, f, some s⟩) n c], [⟨cells, g, e, true⟩] => some (.slice (some ⟨1, 0, some n⟩) n n, [⟨cells, g, e, true⟩], [⟨cellsI .u8 n (fun i => wd cells (f + i)), true, 1, true⟩])
      | _, _ => none
    C := fun args os => match args, os with
      | [.slice (some ⟨b, off, none⟩) n c], [] => [(roAll M b off n, true)]
      | [.slice (some ⟨0, f, some s⟩) n c], [⟨cells, g, e, _⟩] => [(byAll cells s f n c, true)]
      | _, _ => [] }

theorem toSum_sound {P : Program} {M : Mem} {f : FuncId} {fn : Func} (hf : P.funcs[f]? = some fn) (hn : (fn.name == "runtime.NumGoroutine") = false) (hb : fn.body.isSome = true)
    (h0 : ACalls P M f [.slice none 0 0] [] (.slice (some ⟨0, 0, some 0⟩) 0 0) [] [⟨[], true, 1, true⟩])
    (h1 : ∀ b off n c, roAll M b off n = true → ACalls P M f [.slice (some ⟨b, off, none⟩) n c] [] (.slice (some ⟨0, 0, some n⟩) n n) [] [⟨cellsI .u8 n (roN M b off), true, 1, true⟩])
    (h2 : ∀ o s n c cells g e, byAll cells s o n c = true → ACalls P M f [.slice (some ⟨0, o, some s⟩) n c] [⟨cells, g, e, true⟩] (.slice (some ⟨1, 0, some n⟩) n n) [⟨cells, g, e, true⟩] [⟨cellsI .u8 n (fun i => wd cells (o + i)), true, 1, true⟩]) : (toSum M f).SoundC P M := by
  refine sumC_sound hf hn hb fun args os v os' ns hs hp => ?_
  simp only [toSum] at hs hp ⊢
  split at hs
  · cases hs; exact ⟨h0, fun _ => rfl⟩
  · rename_i b off n c
    cases hs
    exact ⟨h1 b off n c (hp (_, true) (List.Mem.head _)), fun _ => rfl⟩
  · rename_i o s n c cells g e
    cases hs
    exact ⟨h2 o s n c cells g e (hp (byAll cells s o n c, true) (List.Mem.head _)), fun _ => rfl⟩
  · cases hs

end Go.Num
