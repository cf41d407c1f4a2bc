/- markReport, evaluated piece by piece.
   Conditions: none. -/
import Derived.Test.YtfkdcpinajnbfaaDoorSz
import Derived.Test.YtfkdcpinajnbfaaDoorAbD
open Go.Ab Go.Num
set_option linter.unusedVariables false
set_option linter.unusedSimpArgs false
namespace Go.Proofs.YtfkdcpinajnbfaaDoor
set_option maxRecDepth 100000
noncomputable def c23 : Code := Tryd.f23.body.getD .skip
noncomputable def loop23 : Code := loopOf 0 c23
noncomputable def b23 : Code := inner (itemN loop23 2)
noncomputable def lp2 : Code := loopOf 2 c23
noncomputable def lp4 : Code := loopOf 4 c23
noncomputable def lp6 : Code := loopOf 6 c23
theorem body23 : Tryd.f23.body = some c23 := by kernel_rfl
theorem items23 : items c23 = [itemN c23 0, itemN c23 1, .block 0 (.loop loop23), itemN c23 3, itemN c23 4] := by kernel_rfl
theorem itemsL23 : items loop23 = [itemN loop23 0, itemN loop23 1, .block 1 b23, itemN loop23 3] := by kernel_rfl
theorem itemsB23 : items b23 = [itemN b23 0, itemN b23 1, itemN b23 2, itemN b23 3, itemN b23 4, itemN b23 5, itemN b23 6, itemN b23 7, itemN b23 8, .block 2 (.loop lp2), itemN b23 10, itemN b23 11, itemN b23 12, itemN b23 13, itemN b23 14, itemN b23 15, .block 4 (.loop lp4), itemN b23 17, .block 6 (.loop lp6)] := by kernel_rfl
abbrev live23 : List Nat := [0, 1, 5]
abbrev slM (n c : Nat) : Value := .slice (some ⟨0, 0, some (n * 87)⟩) n c
abbrev vs23 (n c : Nat) (k : Int) (i : Nat) : List Value := [slM n c, .int .i64 k, .int .i64 i]
abbrev mO (X : List Value) : AHeap := [some ⟨X, false, 1, true⟩]
def nx (k : Int) : Int := IntKind.wrap .i64 (k + 1)
def stX (X : List Value) (n i c : Nat) : Pins := [(inB i n, true), (stB ⟨X, false, 1, true⟩ (n * 87) (0 + (i : Int).toNat * 87 + c) 1, true)]
def of (i c : Nat) : Nat := 0 + (i : Int).toNat * 87 + c
def b3 (k : Int) : Value := .bool (k.tmod 3 == 0)
section
variable (M : Mem) (n c i : Nat) (k j : Int) (X : List Value) (z : Nat → Value)
theorem e23a (u v : Value) : viewU live23 (evL Tryd.prog M (ovN Tryd.prog M) [] [] [] [] 200 [itemN c23 0, itemN c23 1] ⟨mkT Tryd.f23.ntmps [0, 1] [u, v] z, mO X⟩ [])
   = some (.normal, [u, v, .int .i64 0], mO X, Tryd.f23.ntmps, []) := by kernel_rfl
theorem e23s : viewU live23 (evL Tryd.prog M (ovN Tryd.prog M) [] [] [] [12] 200 [itemN loop23 0, itemN loop23 1] ⟨mkT Tryd.f23.ntmps live23 (vs23 n c k i) z, mO X⟩ [true])
   = some (.normal, vs23 n c k i, mO X, Tryd.f23.ntmps, [(decide ((i : Int) < (n : Int)), true)]) := by kernel_rfl
theorem e23x : viewU [1] (evL Tryd.prog M (ovN Tryd.prog M) [] [] [] [12] 200 (items loop23) ⟨mkT Tryd.f23.ntmps live23 (vs23 n c k i) z, mO X⟩ [false])
   = some (.exit 0, [.int .i64 k], mO X, Tryd.f23.ntmps, [(decide ((i : Int) < (n : Int)), false)]) := by kernel_rfl
theorem e23i : viewU live23 (evL Tryd.prog M (ovN Tryd.prog M) [] [] [] [] 200 [itemN loop23 3] ⟨mkT Tryd.f23.ntmps live23 (vs23 n c k i) z, mO X⟩ [])
   = some (.normal, [slM n c, .int .i64 k, .int .i64 (IntKind.wrap .i64 ((i : Int) + 1))], mO X, Tryd.f23.ntmps, []) := by kernel_rfl
theorem e23e : viewU [4] (evL Tryd.prog M (ovN Tryd.prog M) [] [] [] [] 200 [itemN c23 3, itemN c23 4] ⟨mkT Tryd.f23.ntmps [1] [.int .i64 k] z, mO X⟩ [])
   = some (.ret, [.int .i64 k], mO X, Tryd.f23.ntmps, []) := by kernel_rfl
def x1 (X : List Value) (i : Nat) (k : Int) : List Value := wr X (of i 0) [.int .i64 k]
theorem e23p1 : viewU [0, 1, 5] (evL Tryd.prog M (ovN Tryd.prog M) [18, 19] [] [] [] 400 [itemN b23 0, itemN b23 1] ⟨mkT Tryd.f23.ntmps live23 (vs23 n c k i) z, mO X⟩ [])
   = some (.normal, vs23 n c (nx k) i, mO (wr X (of i 0) [.int .i64 k]), Tryd.f23.ntmps, stX X n i 0) := by kernel_rfl
theorem e23p2 : viewU [0, 1, 5] (evL Tryd.prog M (ovN Tryd.prog M) [25, 26] [] [] [] 400 [itemN b23 2, itemN b23 3] ⟨mkT Tryd.f23.ntmps live23 (vs23 n c k i) z, mO X⟩ [])
   = some (.normal, vs23 n c (nx k) i, mO (wr X (of i 1) [.int .i64 k]), Tryd.f23.ntmps, stX X n i 1) := by kernel_rfl
theorem e23p3 : viewU [0, 1, 5] (evL Tryd.prog M (ovN Tryd.prog M) [34, 35] [] [] [] 400 [itemN b23 4, itemN b23 5] ⟨mkT Tryd.f23.ntmps live23 (vs23 n c k i) z, mO X⟩ [])
   = some (.normal, vs23 n c (nx k) i, mO (wr X (of i 2) [b3 k]), Tryd.f23.ntmps, stX X n i 2) := by kernel_rfl
theorem e23p4 : viewU [0, 1, 5, 6] (evL Tryd.prog M (ovN Tryd.prog M) [43, 44, 45] [] [] [] 400 [itemN b23 6, itemN b23 7, itemN b23 8] ⟨mkT Tryd.f23.ntmps live23 (vs23 n c k i) z, mO X⟩ [])
   = some (.normal, vs23 n c (nx k) i ++ [.int .i64 0], mO (wr X (of i 3) [b3 k]), Tryd.f23.ntmps, stX X n i 3) := by kernel_rfl

theorem e23q2s : viewU [0, 1, 5, 6] (evL Tryd.prog M (ovN Tryd.prog M) [57, 58, 59, 60] [] [] [49] 400 (items lp2) ⟨mkT Tryd.f23.ntmps [0, 1, 5, 6] (vs23 n c k i ++ [.int .i64 j]) z, mO X⟩ [true])
   = some (.normal, vs23 n c (nx k) i ++ [.int .i64 (nx j)], mO (wr X (of i 3 + 1 + j.toNat * 1) [.int .u8 (IntKind.u8.wrap k)]), Tryd.f23.ntmps, [(decide (j < 16), true), (inB i n, true), (inB j 16, true), (stB ⟨X, false, 1, true⟩ (n * 87) (of i 3 + 1 + j.toNat * 1) 1, true)]) := by kernel_rfl
theorem e23q2x : viewU [0, 1, 5] (evL Tryd.prog M (ovN Tryd.prog M) [] [] [] [49] 400 (items lp2) ⟨mkT Tryd.f23.ntmps [0, 1, 5, 6] (vs23 n c k i ++ [.int .i64 j]) z, mO X⟩ [false])
   = some (.exit 2, vs23 n c k i, mO X, Tryd.f23.ntmps, [(decide (j < 16), false)]) := by kernel_rfl

theorem e23q4s : viewU [0, 1, 5, 7] (evL Tryd.prog M (ovN Tryd.prog M) [95, 96, 97] [] [] [87] 400 (items lp4) ⟨mkT Tryd.f23.ntmps [0, 1, 5, 7] (vs23 n c k i ++ [.int .i64 j]) z, mO X⟩ [true])
   = some (.normal, vs23 n c (nx k) i ++ [.int .i64 (nx j)], mO (wr X (of i 23 + j.toNat * 1) [.int .u8 (IntKind.u8.wrap k)]), Tryd.f23.ntmps, [(decide (j < 32), true), (inB i n, true), (inB j 32, true), (stB ⟨X, false, 1, true⟩ (n * 87) (of i 23 + j.toNat * 1) 1, true)]) := by kernel_rfl
theorem e23q4x : viewU [0, 1, 5] (evL Tryd.prog M (ovN Tryd.prog M) [] [] [] [87] 400 (items lp4) ⟨mkT Tryd.f23.ntmps [0, 1, 5, 7] (vs23 n c k i ++ [.int .i64 j]) z, mO X⟩ [false])
   = some (.exit 4, vs23 n c k i, mO X, Tryd.f23.ntmps, [(decide (j < 32), false)]) := by kernel_rfl

theorem e23q6s : viewU [0, 1, 5, 8] (evL Tryd.prog M (ovN Tryd.prog M) [109, 110, 111] [] [] [101] 400 (items lp6) ⟨mkT Tryd.f23.ntmps [0, 1, 5, 8] (vs23 n c k i ++ [.int .i64 j]) z, mO X⟩ [true])
   = some (.normal, vs23 n c (nx k) i ++ [.int .i64 (nx j)], mO (wr X (of i 55 + j.toNat * 1) [.int .u8 (IntKind.u8.wrap k)]), Tryd.f23.ntmps, [(decide (j < 32), true), (inB i n, true), (inB j 32, true), (stB ⟨X, false, 1, true⟩ (n * 87) (of i 55 + j.toNat * 1) 1, true)]) := by kernel_rfl
theorem e23q6x : viewU [0, 1, 5] (evL Tryd.prog M (ovN Tryd.prog M) [] [] [] [101] 400 (items lp6) ⟨mkT Tryd.f23.ntmps [0, 1, 5, 8] (vs23 n c k i ++ [.int .i64 j]) z, mO X⟩ [false])
   = some (.exit 6, vs23 n c k i, mO X, Tryd.f23.ntmps, [(decide (j < 32), false)]) := by kernel_rfl

theorem e23p5 : viewU live23 (evL Tryd.prog M (ovN Tryd.prog M) [67, 68, 69] [] [] [] 400 [itemN b23 10, itemN b23 11] ⟨mkT Tryd.f23.ntmps live23 (vs23 n c k i) z, mO X⟩ [])
   = some (.normal, vs23 n c (nx k) i, mO (wr X (of i 3 + 17) [.int .u16 (IntKind.u16.wrap k)]), Tryd.f23.ntmps, [(inB i n, true), (stB ⟨X, false, 1, true⟩ (n * 87) (of i 3 + 17) 1, true)]) := by kernel_rfl
theorem e23p6 : viewU [0, 1, 5, 7] (evL Tryd.prog M (ovN Tryd.prog M) [82, 83] [] [] [] 400 [itemN b23 13, itemN b23 14, itemN b23 15] ⟨mkT Tryd.f23.ntmps live23 (vs23 n c k i) z, mO X⟩ [])
   = some (.normal, vs23 n c (nx k) i ++ [.int .i64 0], mO (wr X (of i 22) [.int .i64 k]), Tryd.f23.ntmps, stX X n i 22) := by kernel_rfl
theorem e23p7 : viewU [0, 1, 5, 8] (evL Tryd.prog M (ovN Tryd.prog M) [] [] [] [] 400 [itemN b23 17] ⟨mkT Tryd.f23.ntmps live23 (vs23 n c k i) z, mO X⟩ [])
   = some (.normal, vs23 n c k i ++ [.int .i64 0], mO X, Tryd.f23.ntmps, []) := by kernel_rfl
/-! the bytes of a row -/
theorem r23_f : drawOf (itemN b23 12) = false := by kernel_rfl
theorem r23_r : List.range (opsOf (itemN b23 12)).size = [0, 1, 2, 3, 4, 5] ++ ([6, 7] ++ []) := by kernel_rfl
theorem e23l (B m C : Nat) : viewW [0, 5, 76, 77] (rtraceU Tryd.prog M (ovF 26 (cpS B m C) (fun _ => none) Tryd.prog M) [74, 76] [] [] (fun l => l) (opsOf (itemN b23 12)) [0, 1, 2, 3, 4, 5] ⟨mkT Tryd.f23.ntmps live23 (vs23 n c k i) z, mO X⟩ [])
   = some ([slM n c, .int .i64 i, cpS B m C, .int .i64 k], mO X, Tryd.f23.ntmps, [(inB i n, true), (decide (X.length = n * 87) && @decide (X[of i 21]? = some (cpS B m C)) (Classical.propDecidable _), true)]) := by kernel_rfl
theorem e23m (l m C : Nat) (Y : List Value) (h : l = l) : viewW live23 (rtraceU Tryd.prog M (ovN Tryd.prog M) [] [markSum11] [] (fun l => l) (opsOf (itemN b23 12)) [6, 7] ⟨mkT Tryd.f23.ntmps [0, 5, 76, 77] [slM n c, .int .i64 i, .slice (some ⟨1, 0, some l⟩) m C, .int .i64 k] z, mO X ++ [some ⟨Y, false, 1, true⟩]⟩ [])
   = some (vs23 n c (cnt64 k m) i, mO X ++ [some ⟨markC Y 0 k m, false, 1, true⟩], Tryd.f23.ntmps, [(sliceB ⟨Y, false, 1, true⟩ l 0 m, true)]) := by kernel_rfl
theorem e23z (B C : Nat) : viewW live23 (rtraceU Tryd.prog M (ovN Tryd.prog M) [] [conSum 11 [cpS B 0 C, .int .i64 k] (.int .i64 k) []] [] (fun l => l) (opsOf (itemN b23 12)) [6, 7] ⟨mkT Tryd.f23.ntmps [0, 5, 76, 77] [slM n c, .int .i64 i, cpS B 0 C, .int .i64 k] z, mO X⟩ [])
   = some (vs23 n c k i, mO X, Tryd.f23.ntmps, [(fact ([cpS B 0 C, .int .i64 k] = [cpS B 0 C, .int .i64 k]), true)]) := by kernel_rfl
theorem e11z (B C : Nat) : evFU Tryd.prog M (ovN Tryd.prog M) [] [] [] [] 200 Tryd.f11 [cpS B 0 C, .int .i64 k] [] [] = some ((.int .i64 k, [], []), []) := by kernel_rfl
end
end Go.Proofs.YtfkdcpinajnbfaaDoor
