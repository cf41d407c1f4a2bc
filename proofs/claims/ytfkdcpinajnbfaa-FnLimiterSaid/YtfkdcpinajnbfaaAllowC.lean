/- The limiter's Allow: its code, cut into pieces.
   Conditions: none. -/
import Derived.Test.YtfkdcpinajnbfaaTable4
import Derived.Test.YtfkdcpinajnbfaaAbD
open Go.Ab
set_option linter.unusedVariables false
set_option linter.unusedSimpArgs false
namespace Go.Proofs.Ytfkdcpinajnbfaa
noncomputable def thenC : Code → Code
  | .cond _ x _ => x
  | c => c
noncomputable def elseC : Code → Code
  | .cond _ _ x => x
  | c => c
abbrev N9 : Nat := 151
noncomputable def c9 : Code := Try.f9.body.getD .skip
noncomputable def sw9 : Code := thenC (itemN c9 6)
noncomputable def l9 : Code := loopOf 0 c9
noncomputable def e9 : Code := (occ 1 c9).getD 0 .skip
noncomputable def u9 : Code := thenC (itemN c9 10)
noncomputable def v9 : Code := elseC (itemN c9 10)
noncomputable def w9 : Code := thenC (itemN v9 1)
noncomputable def m9 : Code := loopOf 2 c9
noncomputable def f9 : Code := (occ 3 c9).getD 0 .skip
noncomputable def g9 : Code := loopOf 4 c9
noncomputable def h9 : Code := (occ 5 c9).getD 0 .skip
set_option maxRecDepth 100000
theorem body9 : Try.f9.body = some c9 := by kernel_rfl
theorem ntmps9 : Try.f9.ntmps = N9 := by kernel_rfl
theorem items9 : items c9 = [itemN c9 0, itemN c9 1, itemN c9 2, itemN c9 3, itemN c9 4, itemN c9 5, .cond (.tmp 34) sw9 .skip, itemN c9 7, itemN c9 8, itemN c9 9, .cond (.tmp 58) u9 v9, itemN c9 11, itemN c9 12, .block 2 (.loop m9), itemN c9 14, itemN c9 15, .block 4 (.loop g9), itemN c9 17, itemN c9 18] := by kernel_rfl
theorem itemsSw : items sw9 = [itemN sw9 0, .block 0 (.loop l9), itemN sw9 2] := by kernel_rfl
theorem itemsL9 : items l9 = [itemN l9 0, itemN l9 1, .block 1 e9] := by kernel_rfl
theorem itemsE9 : items e9 = [itemN e9 0, itemN e9 1, .cond (.tmp 49) (thenC (itemN e9 2)) .skip] := by kernel_rfl
theorem itemsV9 : items v9 = [itemN v9 0, .cond (.tmp 107) w9 .skip] := by kernel_rfl
theorem itemsW9 : items w9 = [itemN w9 0, itemN w9 1] := by kernel_rfl
theorem itemsM9 : items m9 = [itemN m9 0, itemN m9 1, .block 3 f9] := by kernel_rfl
theorem itemsF9 : items f9 = [itemN f9 0, itemN f9 1] := by kernel_rfl
theorem itemsG9 : items g9 = [itemN g9 0, itemN g9 1, .block 5 h9, itemN g9 3] := by kernel_rfl
theorem itemsH9 : items h9 = [itemN h9 0, itemN h9 1] := by kernel_rfl

/-- What has grown, and what is left of it when a packet passes. -/
def grownR (now : Int) (b : Bk) : Int := IntKind.i64.wrap (b.tok + if IntKind.i64.wrap (250000000 - b.tok) < IntKind.i64.wrap (now - b.last) then IntKind.i64.wrap (250000000 - b.tok) else IntKind.i64.wrap (now - b.last))
def passR (now : Int) (b : Bk) : Bk := ⟨b.k, IntKind.i64.wrap (grownR now b - 50000000), now⟩
def stayR (now : Int) (b : Bk) : Bk := ⟨b.k, grownR now b, now⟩
def idleP (x now : Int) (b : Bool) : Pins := [(decide (IntKind.i64.wrap (now - x) > 1000000000), b)]
theorem make_f : drawOf (itemN c9 1) = false := by kernel_rfl
theorem make_r : List.range (opsOf (itemN c9 1)).size = [0, 1] ++ (2 :: ([3] ++ [])) := by kernel_rfl
theorem make_o : (opsOf (itemN c9 1))[2]? = some (opAt (itemN c9 1) 2) := by kernel_rfl
theorem make_g : (opAt (itemN c9 1) 2).guard = none := by kernel_rfl
theorem make_d : (opAt (itemN c9 1) 2).dst = some 21 := by kernel_rfl
theorem rng6_f : drawOf (itemN sw9 0) = false := by kernel_rfl
theorem rng6_r : List.range (opsOf (itemN sw9 0)).size = [0] ++ [1] := by kernel_rfl
theorem rng6_o : (opsOf (itemN sw9 0))[1]? = some (opAt (itemN sw9 0) 1) := by kernel_rfl
theorem rng6_g : (opAt (itemN sw9 0) 1).guard = none := by kernel_rfl
theorem rng6_d : (opAt (itemN sw9 0) 1).dst = some 36 := by kernel_rfl
theorem rng6_p : (opAt (itemN sw9 0) 1).op = .range 51 (.tmp 35) := by kernel_rfl
theorem nx7_f : drawOf (itemN l9 0) = false := by kernel_rfl
theorem nx7_r : List.range (opsOf (itemN l9 0)).size = 0 :: ([1] ++ []) := by kernel_rfl
theorem nx7_o : (opsOf (itemN l9 0))[0]? = some (opAt (itemN l9 0) 0) := by kernel_rfl
theorem nx7_g : (opAt (itemN l9 0) 0).guard = none := by kernel_rfl
theorem nx7_d : (opAt (itemN l9 0) 0).dst = some 37 := by kernel_rfl
theorem nx7_p : (opAt (itemN l9 0) 0).op = .next (.tmp 36) false := by kernel_rfl
theorem en8_f : drawOf (itemN e9 0) = false := by kernel_rfl
theorem en8_r : List.range (opsOf (itemN e9 0)).size = 0 :: ([1, 2, 3, 4, 5] ++ []) := by kernel_rfl
theorem en8_o : (opsOf (itemN e9 0))[0]? = some (opAt (itemN e9 0) 0) := by kernel_rfl
theorem en8_g : (opAt (itemN e9 0) 0).guard = none := by kernel_rfl
theorem en8_d : (opAt (itemN e9 0) 0).dst = some 39 := by kernel_rfl
theorem en8_p : (opAt (itemN e9 0) 0).op = .entry (.tmp 36) := by kernel_rfl
theorem del10_f : drawOf (thenC (itemN e9 2)) = false := by kernel_rfl
theorem del10_r : List.range (opsOf (thenC (itemN e9 2))).size = [0, 1] ++ [2] := by kernel_rfl
theorem del10_o : (opsOf (thenC (itemN e9 2)))[2]? = some (opAt (thenC (itemN e9 2)) 2) := by kernel_rfl
theorem del10_g : (opAt (thenC (itemN e9 2)) 2).guard = none := by kernel_rfl
theorem del10_d : (opAt (thenC (itemN e9 2)) 2).dst = none := by kernel_rfl
theorem del10_p : (opAt (thenC (itemN e9 2)) 2).op = .call ⟨.builtin .delete, #[.tmp 50, .tmp 51], #[51, 25]⟩ := by kernel_rfl
theorem lk13_f : drawOf (itemN c9 8) = false := by kernel_rfl
theorem lk13_r : List.range (opsOf (itemN c9 8)).size = [0, 1] ++ (2 :: ([3] ++ [])) := by kernel_rfl
theorem lk13_o : (opsOf (itemN c9 8))[2]? = some (opAt (itemN c9 8) 2) := by kernel_rfl
theorem lk13_g : (opAt (itemN c9 8) 2).guard = none := by kernel_rfl
theorem lk13_d : (opAt (itemN c9 8) 2).dst = some 56 := by kernel_rfl
theorem lk13_p : (opAt (itemN c9 8) 2).op = .lookup 51 (.tmp 54) (.tmp 55) false := by kernel_rfl
theorem ln20_f : drawOf (itemN v9 0) = false := by kernel_rfl
theorem ln20_r : List.range (opsOf (itemN v9 0)).size = [0] ++ (1 :: ([2, 3, 4] ++ [])) := by kernel_rfl
theorem ln20_o : (opsOf (itemN v9 0))[1]? = some (opAt (itemN v9 0) 1) := by kernel_rfl
theorem ln20_g : (opAt (itemN v9 0) 1).guard = none := by kernel_rfl
theorem ln20_d : (opAt (itemN v9 0) 1).dst = some 104 := by kernel_rfl
theorem ln20_p : (opAt (itemN v9 0) 1).op = .call ⟨.builtin .len, #[.tmp 103], #[51]⟩ := by kernel_rfl
theorem up21_f : drawOf (itemN w9 0) = false := by kernel_rfl
theorem up21_r : List.range (opsOf (itemN w9 0)).size = [0, 1, 2, 3, 4, 5, 6, 7, 8, 9] ++ [10] := by kernel_rfl
theorem up21_o : (opsOf (itemN w9 0))[10]? = some (opAt (itemN w9 0) 10) := by kernel_rfl
theorem up21_g : (opAt (itemN w9 0) 10).guard = none := by kernel_rfl
theorem up21_d : (opAt (itemN w9 0) 10).dst = none := by kernel_rfl
theorem up21_p : (opAt (itemN w9 0) 10).op = .mapUpdate 51 (.tmp 108) (.tmp 109) (.tmp 117) := by kernel_rfl
theorem ln23_f : drawOf (itemN c9 11) = false := by kernel_rfl
theorem ln23_r : List.range (opsOf (itemN c9 11)).size = [0] ++ (1 :: ([2, 3] ++ [])) := by kernel_rfl
theorem ln23_o : (opsOf (itemN c9 11))[1]? = some (opAt (itemN c9 11) 1) := by kernel_rfl
theorem ln23_g : (opAt (itemN c9 11) 1).guard = none := by kernel_rfl
theorem ln23_d : (opAt (itemN c9 11) 1).dst = some 119 := by kernel_rfl
theorem ln23_p : (opAt (itemN c9 11) 1).op = .call ⟨.builtin .len, #[.tmp 118], #[51]⟩ := by kernel_rfl
theorem rng24_f : drawOf (itemN c9 12) = false := by kernel_rfl
theorem rng24_r : List.range (opsOf (itemN c9 12)).size = [0] ++ [1] := by kernel_rfl
theorem rng24_o : (opsOf (itemN c9 12))[1]? = some (opAt (itemN c9 12) 1) := by kernel_rfl
theorem rng24_g : (opAt (itemN c9 12) 1).guard = none := by kernel_rfl
theorem rng24_d : (opAt (itemN c9 12) 1).dst = some 122 := by kernel_rfl
theorem rng24_p : (opAt (itemN c9 12) 1).op = .range 51 (.tmp 121) := by kernel_rfl
theorem nx25_f : drawOf (itemN m9 0) = false := by kernel_rfl
theorem nx25_r : List.range (opsOf (itemN m9 0)).size = 0 :: ([1] ++ []) := by kernel_rfl
theorem nx25_o : (opsOf (itemN m9 0))[0]? = some (opAt (itemN m9 0) 0) := by kernel_rfl
theorem nx25_g : (opAt (itemN m9 0) 0).guard = none := by kernel_rfl
theorem nx25_d : (opAt (itemN m9 0) 0).dst = some 123 := by kernel_rfl
theorem nx25_p : (opAt (itemN m9 0) 0).op = .next (.tmp 122) false := by kernel_rfl
theorem en26_f : drawOf (itemN f9 0) = false := by kernel_rfl
theorem en26_r : List.range (opsOf (itemN f9 0)).size = 0 :: ([1, 2] ++ []) := by kernel_rfl
theorem en26_o : (opsOf (itemN f9 0))[0]? = some (opAt (itemN f9 0) 0) := by kernel_rfl
theorem en26_g : (opAt (itemN f9 0) 0).guard = none := by kernel_rfl
theorem en26_d : (opAt (itemN f9 0) 0).dst = some 125 := by kernel_rfl
theorem en26_p : (opAt (itemN f9 0) 0).op = .entry (.tmp 122) := by kernel_rfl
theorem so28_f : drawOf (itemN c9 14) = false := by kernel_rfl
theorem so28_r : List.range (opsOf (itemN c9 14)).size = [0] ++ [1] := by kernel_rfl
theorem so28_o : (opsOf (itemN c9 14))[1]? = some (opAt (itemN c9 14) 1) := by kernel_rfl
theorem so28_g : (opAt (itemN c9 14) 1).guard = none := by kernel_rfl
theorem so28_d : (opAt (itemN c9 14) 1).dst = some 132 := by kernel_rfl
theorem so28_p : (opAt (itemN c9 14) 1).op = .call ⟨.value (.func 20), #[.tmp 131, .func 21], #[56, 59]⟩ := by kernel_rfl
theorem make_p : (opAt (itemN c9 1) 2).op = .call ⟨.value (.func 19), #[.tmp 19, .tmp 20], #[29, 3]⟩ := by kernel_rfl
end Go.Proofs.Ytfkdcpinajnbfaa
