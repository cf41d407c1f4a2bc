/- The specification's field in digits of 16 bits: what its functions give.
   Conditions: the digits are in bounds. -/
import Derived.Test.YtjdckgnpocnifaaGA
import Derived.Test.YtjdckgnpocnifaaMul
open Go.Ab Go.Num
set_option linter.unusedVariables false
set_option linter.unusedSimpArgs false
namespace Go.Proofs.Ytjdckgnpocnifaa

set_option maxRecDepth 100000 in
theorem r35 (M : Mem) (x : Nat → Int) : evFT Try.prog M (fns []) [] 1000 Try.f35 [.agg ⟨cellsI .i64 16 x⟩] [] = some (.agg ⟨cellsI .i64 16 (passP (passP (passP x)))⟩, [], []) := by kernel_rfl

def isD (A : List Value) : Bool := Nat.beq A.length 16 && A.all (isI .i64)
theorem isD_eq {A : List Value} (h : isD A = true) : A = cellsI .i64 16 (wd A) := by
  simp only [isD, Bool.and_eq_true] at h
  have := cellsI_wd h.2
  rwa [Nat.eq_of_beq_eq_true h.1] at this
theorem leB_d {K : Int} {A : List Value} (hA : isD A = true) (h : leB K A = true) : ∀ i, i < 16 → 0 ≤ wd A i ∧ wd A i ≤ K := by
  rw [isD_eq hA, leB_iff] at h
  exact h

def carry3Sum (f : FuncId) : Sum :=
  { f := f, ro := true
    S := fun args os => match args, os with
      | [.agg ⟨A⟩], [] => if isD A then some (.agg ⟨cellsI .i64 16 (pass3 (wd A))⟩, [], []) else none
      | _, _ => none
    C := fun args _ => match args with
      | [.agg ⟨A⟩] => [(leB 100000000000000 A, true)]
      | _ => [] }

theorem carry35 (M : Mem) : (carry3Sum 35).SoundC Try.prog M := sumC_sound Try.func35 (by kernel_rfl) (by kernel_rfl) fun args os v os' ns hs hp => by
  simp only [carry3Sum] at hs hp ⊢
  split at hs
  · rename_i A
    split at hs
    · rename_i hA
      cases hs
      have hb : leB 100000000000000 A = true := hp (leB 100000000000000 A, true) (List.Mem.head _)
      have := acalls_of_evFT fns_nil mix Try.func35 (r35 M (wd A))
      rw [cellsI_congr (passP3_eq (leB_d hA hb)), ← isD_eq hA] at this
      exact ⟨this, fun _ => rfl⟩
    · cases hs
  · cases hs

/-- The digits of a product ahead of carrying. -/
def lowL (x y : Nat → Int) : List Value := (List.range 16).map fun k => .int .i64 (IntKind.i64.wrap (convO IntKind.i64.wrap x y 16 16 k + IntKind.i64.wrap (38 * convO IntKind.i64.wrap x y 16 16 (k + 16))))

set_option maxRecDepth 100000 in
theorem r21 (M : Mem) (x y : Nat → Int) : evFC Try.prog M [carry3Sum 35] [] 3000 Try.f21 [.agg ⟨cellsI .i64 16 x⟩, .agg ⟨cellsI .i64 16 y⟩] [] []
   = some ((.agg ⟨cellsI .i64 16 (pass3 (wd (lowL x y)))⟩, [], []), [(leB 100000000000000 (lowL x y), true)]) := by kernel_rfl

end Go.Proofs.Ytjdckgnpocnifaa
