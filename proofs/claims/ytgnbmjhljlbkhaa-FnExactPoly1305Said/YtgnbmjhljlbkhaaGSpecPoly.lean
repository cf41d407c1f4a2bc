/- The specification's digits of 8 bits: carrying, folding modulo 2^130 - 5.
   Conditions: the digits are in bounds; plain arithmetic. -/
import Derived.Test.YtgnbmjhljlbkhaaGPoly4
import Derived.Test.YtgnbmjhljlbkhaaGDigits2
set_option linter.unusedVariables false
namespace Go.Num
open Go.Ab

/-- The first m digits, then nothing. -/
def ext (d : Nat → Int) (m k : Nat) : Int := bif Nat.blt k m then d k else 0

/-- As the text carries. -/
def c8W (d : Nat → Int) (m : Nat) : Nat → Int
  | 0 => 0
  | k + 1 => IntKind.i64.wrap ((bif Nat.blt k m then IntKind.i64.wrap (c8W d m k + d k) else c8W d m k).tdiv 256)
def d8W (d : Nat → Int) (m k : Nat) : Int := (bif Nat.blt k m then IntKind.i64.wrap (c8W d m k + d k) else c8W d m k).tmod 256

theorem c8W_eq {d : Nat → Int} {m : Nat} (h : ∀ i, i < m → 0 ≤ d i ∧ d i ≤ 1000000000000000) : ∀ k, c8W d m k = car 256 (ext d m) k ∧ 0 ≤ car 256 (ext d m) k ∧ car 256 (ext d m) k ≤ 1000000000000000 ∧ d8W d m k = dig 256 (ext d m) k := by
  have key : ∀ k, c8W d m k = car 256 (ext d m) k → 0 ≤ car 256 (ext d m) k → car 256 (ext d m) k ≤ 1000000000000000 →
      (bif Nat.blt k m then IntKind.i64.wrap (c8W d m k + d k) else c8W d m k) = car 256 (ext d m) k + ext d m k ∧ 0 ≤ ext d m k ∧ ext d m k ≤ 1000000000000000 := fun k h1 h2 h3 => by
    unfold ext
    cases hb : Nat.blt k m with
    | true =>
      have := h k (Nat.blt_eq.mp hb)
      simp only [cond_true]
      rw [h1, w64 (by unfold ext at *; omega) (by unfold ext at *; omega)]
      unfold ext
      exact ⟨rfl, this.1, this.2⟩
    | false =>
      simp only [cond_false]
      rw [h1]
      unfold ext
      exact ⟨by omega, by omega, by omega⟩
  have main : ∀ k, c8W d m k = car 256 (ext d m) k ∧ 0 ≤ car 256 (ext d m) k ∧ car 256 (ext d m) k ≤ 1000000000000000 := by
    intro k
    induction k with
    | zero => exact ⟨rfl, Int.le_refl 0, by show (0 : Int) ≤ _; decide⟩
    | succ k ih =>
      obtain ⟨h1, h2, h3⟩ := ih
      obtain ⟨e, a, b⟩ := key k h1 h2 h3
      have ec : car 256 (ext d m) (k + 1) = (car 256 (ext d m) k + ext d m k) / 256 := rfl
      simp only [c8W]
      rw [e, ec, Int.tdiv_eq_ediv_of_nonneg (by omega), w64 (by omega) (by omega)]
      exact ⟨rfl, by omega, by omega⟩
  intro k
  obtain ⟨h1, h2, h3⟩ := main k
  obtain ⟨e, a, b⟩ := key k h1 h2 h3
  refine ⟨h1, h2, h3, ?_⟩
  unfold d8W
  rw [e, Int.tmod_eq_emod_of_nonneg (by omega)]
  rfl

/-- Digits from 0 to a bound lie there. -/
def digB (cells : List Value) (s m : Nat) : Bool := decide (cells.length = s) && (decide (m ≤ s) && (List.range m).all fun i => isI .i64 (atC cells i) && (decide (0 ≤ wd cells i) && decide (wd cells i ≤ 1000000000000000)))
theorem digB_iff {cells : List Value} {s m : Nat} : digB cells s m = true ↔ cells.length = s ∧ m ≤ s ∧ ∀ i, i < m → isI .i64 (atC cells i) = true ∧ 0 ≤ wd cells i ∧ wd cells i ≤ 1000000000000000 := by
  simp only [digB, Bool.and_eq_true, decide_eq_true_eq, List.all_eq_true, List.mem_range]

def carry8Sum (f : FuncId) : Sum :=
  { f := f, ro := true
    S := fun args os => match args, os with
      | [.slice (some ⟨0, 0, some s⟩) m c, .int .i64 n], [⟨cells, g, e, true⟩] =>
        if (Nat.beq m 40 && decide (n = 40)) || ((Nat.beq m 24 && decide (n = 40)) || (Nat.beq m 17 && decide (n = 16))) then
          some (.slice (some ⟨1, 0, some n.toNat⟩) n.toNat n.toNat, [⟨cells, g, e, true⟩], [⟨cellsI .i64 n.toNat (dig 256 (ext (wd cells) m)), true, 1, true⟩]) else none
      | _, _ => none
    C := fun args os => match args, os with
      | [.slice (some ⟨0, 0, some s⟩) m c, _], [⟨cells, _, _, _⟩] => [(digB cells s m, true)]
      | _, _ => [] }

theorem carry8Sum_sound {P : Program} {M : Mem} {f : FuncId} {fn : Func} (hf : P.funcs[f]? = some fn) (hn : (fn.name == "runtime.NumGoroutine") = false) (hb : fn.body.isSome = true)
    (h : ∀ (m n : Nat) (s c : Nat) (cells : List Value) (g : Bool) (e : Nat), (m = 40 ∧ n = 40) ∨ (m = 24 ∧ n = 40) ∨ (m = 17 ∧ n = 16) → digB cells s m = true →
      ACalls P M f [.slice (some ⟨0, 0, some s⟩) m c, .int .i64 n] [⟨cells, g, e, true⟩] (.slice (some ⟨1, 0, some n⟩) n n) [⟨cells, g, e, true⟩] [⟨cellsI .i64 n (d8W (wd cells) m), true, 1, true⟩]) : (carry8Sum f).SoundC P M := by
  refine sumC_sound hf hn hb fun args os v os' ns hs hp => ?_
  simp only [carry8Sum] at hs hp ⊢
  split at hs
  · rename_i s m c n cells g e
    split at hs
    · rename_i hmn
      cases hs
      have hd : digB cells s m = true := hp (digB cells s m, true) (List.Mem.head _)
      refine ⟨?_, fun _ => rfl⟩
      simp only [Bool.or_eq_true, Bool.and_eq_true, decide_eq_true_eq] at hmn
      have hmn' : (m = 40 ∧ n.toNat = 40) ∨ (m = 24 ∧ n.toNat = 40) ∨ (m = 17 ∧ n.toNat = 16) := by
        rcases hmn with ⟨a, b⟩ | ⟨a, b⟩ | ⟨a, b⟩
        · exact .inl ⟨Nat.eq_of_beq_eq_true a, by omega⟩
        · exact .inr (.inl ⟨Nat.eq_of_beq_eq_true a, by omega⟩)
        · exact .inr (.inr ⟨Nat.eq_of_beq_eq_true a, by omega⟩)
      have := h m n.toNat s c cells g e hmn' hd
      have en : ((n.toNat : Nat) : Int) = n := by omega
      rw [en, cellsI_congr fun i _ => (c8W_eq (m := m) (fun i hi => ((digB_iff.1 hd).2.2 i hi).2) i).2.2.2] at this
      exact this
    · cases hs
  · cases hs

end Go.Num
