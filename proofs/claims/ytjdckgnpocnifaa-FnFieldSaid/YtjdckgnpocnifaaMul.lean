/- The field's carrying and multiplying: what the program's functions give.
   Conditions: the limbs are in bounds. -/
import Derived.Test.YtjdckgnpocnifaaGA
import Derived.Test.YtjdckgnpocnifaaBase
open Go.Ab Go.Num
set_option linter.unusedVariables false
set_option linter.unusedSimpArgs false
namespace Go.Proofs.Ytjdckgnpocnifaa

theorem m39 (M : Mem) (x y : Int) : evFT Try.prog M (fns []) [] 200 Try.f39 [.int .u64 x, .int .u64 y] [] = some (.tuple ⟨[.int .u64 (mulHi x y), .int .u64 (IntKind.u64.wrap (x * y))]⟩, [], []) := by kernel_rfl
theorem add38 (M : Mem) : (add64Sum 38).SoundC Try.prog M := add64Sum_sound Try.func38 (by kernel_rfl) (by kernel_rfl) (by kernel_rfl) (by rfl)
theorem mul39 (M : Mem) : (mul64Sum 39).SoundC Try.prog M := mul64Sum_sound Try.func39 (by kernel_rfl) (by kernel_rfl) fun x y => acalls_of_evFT fns_nil mix Try.func39 (m39 M x y)

theorem r37 (M : Mem) (h l a b : Int) : evFC Try.prog M [mul64Sum 39, add64Sum 38] [] 200 Try.f37 [.agg ⟨[.int .u64 h, .int .u64 l]⟩, .int .u64 a, .int .u64 b] [] [] = some ((.agg ⟨[.int .u64 ((h + a * b / 18446744073709551616 + (l + a * b % 18446744073709551616 + 0) / 18446744073709551616) % 18446744073709551616), .int .u64 ((l + a * b % 18446744073709551616 + 0) % 18446744073709551616)]⟩, [], []),
   [(hasB .u64 a && hasB .u64 b, true), (addB l (a * b % 18446744073709551616) 0, true), (addB h (a * b / 18446744073709551616) ((l + a * b % 18446744073709551616 + 0) / 18446744073709551616), true)]) := by kernel_rfl
theorem plus37 (M : Mem) : (plusSum 37).SoundC Try.prog M := plusSum_sound Try.func37 (by kernel_rfl) (by kernel_rfl) fun h l a b hp =>
  acalls_of_evFC (consC (mul39 M) (consC (add38 M) nilC)) mix Try.func37 (r37 M h l a b) hp

theorem r24 (M : Mem) (x : Nat → Int) : evFT Try.prog M (fns []) [] 200 Try.f24 [.agg ⟨cellsI .u64 5 x⟩] [] = some (.agg ⟨carryI x⟩, [], []) := by kernel_rfl

def isE (A : List Value) : Bool := Nat.beq A.length 5 && A.all (isI .u64)
theorem isE_eq {A : List Value} (h : isE A = true) : A = cellsI .u64 5 (wd A) := by
  simp only [isE, Bool.and_eq_true] at h
  have := cellsI_wd h.2
  rwa [Nat.eq_of_beq_eq_true h.1] at this

def carrySum (f : FuncId) : Sum :=
  { f := f, ro := true
    S := fun args os => match args, os with
      | [.agg ⟨A⟩], [] => if isE A then some (.agg ⟨cellsI .u64 5 (carE (wd A))⟩, [], []) else none
      | _, _ => none
    C := fun args _ => match args with
      | [.agg ⟨A⟩] => [(leB 9223372036854775807 A, true)]
      | _ => [] }

theorem leB_bd {K : Int} {A : List Value} (hA : isE A = true) (h : leB K A = true) : Bd K (wd A) := by
  rw [isE_eq hA, leB_iff] at h
  exact h

theorem carry24 (M : Mem) : (carrySum 24).SoundC Try.prog M := sumC_sound Try.func24 (by kernel_rfl) (by kernel_rfl) fun args os v os' ns hs hp => by
  simp only [carrySum] at hs hp ⊢
  split at hs
  · rename_i A
    split at hs
    · rename_i hA
      cases hs
      have hb : leB 9223372036854775807 A = true := hp (leB 9223372036854775807 A, true) (List.Mem.head _)
      have := acalls_of_evFT fns_nil mix Try.func24 (r24 M (wd A))
      rw [carryI_eq (leB_bd hA hb), ← isE_eq hA] at this
      exact ⟨this, fun _ => rfl⟩
    · cases hs
  · cases hs

set_option maxRecDepth 100000 in
theorem r25 (M : Mem) (x y : Nat → Int) : evFC Try.prog M [carrySum 24, plusSum 37, mul64Sum 39, add64Sum 38] [] 1000 Try.f25 [.agg ⟨cellsI .u64 5 x⟩, .agg ⟨cellsI .u64 5 y⟩] [] []
   = some ((.agg ⟨cellsI .u64 5 (carE (wd (mulL (VV x y 5))))⟩, [], []), mulPins x y) := by kernel_rfl

end Go.Proofs.Ytjdckgnpocnifaa
