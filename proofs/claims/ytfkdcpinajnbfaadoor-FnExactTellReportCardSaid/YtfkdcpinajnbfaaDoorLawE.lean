/- The law FnExactTellReport, evaluated piece by piece.
   Conditions: none. -/
import Derived.Test.YtfkdcpinajnbfaaDoorMark
import Derived.Test.YtfkdcpinajnbfaaDoorAbD
open Go.Ab Go.Num
set_option linter.unusedVariables false
set_option linter.unusedSimpArgs false
namespace Go.Proofs.YtfkdcpinajnbfaaDoor
set_option maxRecDepth 100000
noncomputable def c3 : Code := Tryd.f3.body.getD .skip
theorem body3 : Tryd.f3.body = some c3 := by kernel_rfl
theorem items3 : items c3 = [itemN c3 0, itemN c3 1, itemN c3 2, itemN c3 3, itemN c3 4, itemN c3 5, itemN c3 6, itemN c3 7, itemN c3 8, itemN c3 9, itemN c3 10, itemN c3 11, itemN c3 12, itemN c3 13, itemN c3 14, itemN c3 15, itemN c3 16, itemN c3 17, itemN c3 18, itemN c3 19, itemN c3 20, itemN c3 21, itemN c3 22, itemN c3 23, itemN c3 24, itemN c3 25, itemN c3 26, itemN c3 27, itemN c3 28] := by kernel_rfl
abbrev repA (s : Out) (dh code : Int) : Value := .agg ⟨repL s.sl dh code⟩
abbrev repQ (q : Cp) (n : Nat) (dh code : Int) : Value := .agg ⟨repL (q.sl n) dh code⟩
abbrev bxA (s : Out) (dh code : Int) : Option AObj := boxO (repL s.sl dh code)
abbrev bxQ (q : Cp) (n : Nat) (dh code : Int) : Option AObj := boxO (repL (q.sl n) dh code)
abbrev mkO (T : List UInt8) : Option AObj := some ⟨markC (tx T) 0 1 T.length, true, 1, true⟩
def eqPin (T : List UInt8) : Pins := [(sliceB (txO T) T.length 0 T.length, true), (sliceB (txO T) T.length 0 T.length, true), (!(Nat.beq T.length T.length && eqB (cut (txO T) 0 T.length) (cut (txO T) 0 T.length)), false)]
section
variable (M : Mem) (s : Out) (dh code v k : Int) (z : Nat → Value) (u u' v' : Value) (q : Cp) (n : Nat) (T : List UInt8)
theorem eL0n : viewU [2] (evL Tryd.prog M (ovN Tryd.prog M) [] [] [conSum 4 [repA s dh code, .int .i64 L20] (.int .i64 v) []] [15] 400 [itemN c3 0, itemN c3 1, itemN c3 2, itemN c3 3, itemN c3 4] ⟨[repA s dh code] ++ List.replicate (Tryd.f3.ntmps - 1) undef, []⟩ [true])
   = some (.ret, [.bool true], [bxA s dh code], Tryd.f3.ntmps, [(fact ([repA s dh code, .int .i64 L20] = [repA s dh code, .int .i64 L20]), true), (decide (v < 0), true)]) := by obtain ⟨zz, b, off, n, c⟩ := s; cases zz <;> kernel_rfl
theorem eL0p : viewU [1] (evL Tryd.prog M (ovN Tryd.prog M) [] [] [conSum 4 [repA s dh code, .int .i64 L20] (.int .i64 v) []] [15] 400 [itemN c3 0, itemN c3 1, itemN c3 2, itemN c3 3, itemN c3 4] ⟨[repA s dh code] ++ List.replicate (Tryd.f3.ntmps - 1) undef, []⟩ [false])
   = some (.normal, [p3 0], [bxA s dh code], Tryd.f3.ntmps, [(fact ([repA s dh code, .int .i64 L20] = [repA s dh code, .int .i64 L20]), true), (decide (v < 0), false)]) := by obtain ⟨zz, b, off, n, c⟩ := s; cases zz <;> kernel_rfl
/-! region 5 -/
theorem r5_f : drawOf (itemN c3 5) = false := by kernel_rfl
theorem r5_r : List.range (opsOf (itemN c3 5)).size = [0] ++ (1 :: ([2, 3] ++ [])) := by kernel_rfl
theorem r5_o : (opsOf (itemN c3 5))[1]? = some (opAt (itemN c3 5) 1) := by kernel_rfl
theorem r5_g : (opAt (itemN c3 5) 1).guard = none := by kernel_rfl
theorem r5_d : (opAt (itemN c3 5) 1).dst = some 17 := by kernel_rfl
theorem r5_p : (opAt (itemN c3 5) 1).op = .call ⟨.value (.func 6), #[.tmp 16], #[24]⟩ := by kernel_rfl
theorem eL5a : viewW [1, 16] (rtraceU Tryd.prog M (ovN Tryd.prog M) [] [] [] (fun l => l) (opsOf (itemN c3 5)) [0] ⟨mkT Tryd.f3.ntmps [1] [p3 0] z, [bxA s dh code]⟩ [])
   = some ([p3 0, repA s dh code], [bxA s dh code], Tryd.f3.ntmps, []) := by obtain ⟨zz, b, off, n, c⟩ := s; cases zz <;> kernel_rfl
theorem eL5c : lookT (aput (mkT Tryd.f3.ntmps [1, 16] [p3 0, u] z) (some 17) v') [1, 17] = [p3 0, v'] := by kernel_rfl
theorem eL5d : viewW [1, 4] (rtraceU Tryd.prog M (ovN Tryd.prog M) [] [conSum 5 [repQ q n dh code] (slN 0 T.length) [txO T]] [] (fun l => l) (opsOf (itemN c3 5)) [2, 3] ⟨mkT Tryd.f3.ntmps [1, 17] [p3 0, repQ q n dh code] z, [bxA s dh code]⟩ [])
   = some ([p3 0, slN 1 T.length], [bxA s dh code, some (txO T)], Tryd.f3.ntmps, [(fact ([repQ q n dh code] = [repQ q n dh code]), true)]) := by obtain ⟨zz, b, off, n, c⟩ := s; cases zz <;> kernel_rfl
/-! region 6 -/
theorem r6x_f : drawOf (itemN c3 6) = false := by kernel_rfl
theorem r6x_r : List.range (opsOf (itemN c3 6)).size = [0] ++ (1 :: ([2, 3] ++ [])) := by kernel_rfl
theorem r6x_o : (opsOf (itemN c3 6))[1]? = some (opAt (itemN c3 6) 1) := by kernel_rfl
theorem r6x_g : (opAt (itemN c3 6) 1).guard = none := by kernel_rfl
theorem r6x_d : (opAt (itemN c3 6) 1).dst = some 20 := by kernel_rfl
theorem r6x_p : (opAt (itemN c3 6) 1).op = .call ⟨.value (.func 6), #[.tmp 19], #[24]⟩ := by kernel_rfl
theorem eL6a : viewW [1, 4, 19] (rtraceU Tryd.prog M (ovN Tryd.prog M) [] [] [] (fun l => l) (opsOf (itemN c3 6)) [0] ⟨mkT Tryd.f3.ntmps [1, 4] [p3 0, slN 1 T.length] z, [bxA s dh code, some (txO T)]⟩ [])
   = some ([p3 0, slN 1 T.length, repA s dh code], [bxA s dh code, some (txO T)], Tryd.f3.ntmps, []) := by obtain ⟨zz, b, off, n, c⟩ := s; cases zz <;> kernel_rfl
theorem eL6c : lookT (aput (mkT Tryd.f3.ntmps [1, 4, 19] [p3 0, slN 1 T.length, u] z) (some 20) v') [1, 4, 20] = [p3 0, slN 1 T.length, v'] := by kernel_rfl
theorem eL6d : viewW [1, 4, 5] (rtraceU Tryd.prog M (ovN Tryd.prog M) [] [] [] (fun l => l) (opsOf (itemN c3 6)) [2, 3] ⟨mkT Tryd.f3.ntmps [1, 4, 20] [p3 0, slN 1 T.length, repQ q n dh code] z, [bxA s dh code, some (txO T)]⟩ [])
   = some ([p3 0, slN 1 T.length, p3 2], [bxA s dh code, some (txO T), bxQ q n dh code], Tryd.f3.ntmps, []) := by obtain ⟨zz, b, off, n, c⟩ := s; cases zz <;> kernel_rfl
abbrev H2 (s : Out) (q : Cp) (n : Nat) (dh code : Int) (T : List UInt8) : AHeap := [bxA s dh code, some (txO T), bxQ q n dh code]
abbrev v456 (T : List UInt8) : List Value := [p3 0, slN 1 T.length, p3 2, slN 3 T.length]
abbrev l456 : List Nat := [1, 4, 5, 6]
theorem eL7 : viewU l456 (evL Tryd.prog M (ovN Tryd.prog M) [] [] [conSum 7 [repQ q n dh code] (slN 0 T.length) [txO T]] [] 400 [itemN c3 7] ⟨mkT Tryd.f3.ntmps [1, 4, 5] [p3 0, slN 1 T.length, p3 2] z, H2 s q n dh code T⟩ [])
   = some (.normal, v456 T, H2 s q n dh code T ++ [some (txO T)], Tryd.f3.ntmps, [(fact ([repQ q n dh code] = [repQ q n dh code]), true)]) := by obtain ⟨zz, b, off, n, c⟩ := s; cases zz <;> kernel_rfl
theorem eL8 : viewU l456 (evL Tryd.prog M (ovN Tryd.prog M) [] [] [eqsSum8] [26] 400 [itemN c3 8, itemN c3 9] ⟨mkT Tryd.f3.ntmps l456 (v456 T) z, H2 s q n dh code T ++ [some (txO T)]⟩ [false])
   = some (.normal, v456 T, H2 s q n dh code T ++ [some (txO T)], Tryd.f3.ntmps, eqPin T) := by obtain ⟨zz, b, off, n, c⟩ := s; cases zz <;> kernel_rfl
/-! region 10 -/
theorem r10x_c : itemN c3 10 = .region 10 (opsOf (itemN c3 10)) true := by kernel_rfl
theorem r10x_l : allOrd .any (opsOf (itemN c3 10)) (opsOf (itemN c3 10)).size (Array.replicate (opsOf (itemN c3 10)).size false) = [[0, 1, 2, 3, 4], [1, 0, 2, 3, 4], [1, 2, 0, 3, 4]] := by kernel_rfl
theorem r10x_o : (opsOf (itemN c3 10))[2]? = some (opAt (itemN c3 10) 2) := by kernel_rfl
theorem r10x_g : (opAt (itemN c3 10) 2).guard = none := by kernel_rfl
theorem r10x_d : (opAt (itemN c3 10) 2).dst = some 29 := by kernel_rfl
theorem r10x_p : (opAt (itemN c3 10) 2).op = .call ⟨.value (.func 6), #[.tmp 28], #[24]⟩ := by kernel_rfl
theorem eL10a : viewW (l456 ++ [27, 28]) (rtraceU Tryd.prog M (ovN Tryd.prog M) [] [] [] (fun l => l) (opsOf (itemN c3 10)) [0, 1] ⟨mkT Tryd.f3.ntmps l456 (v456 T) z, H2 s q n dh code T ++ [some (txO T)]⟩ [])
   = some (v456 T ++ [repQ q n dh code, repA s dh code], H2 s q n dh code T ++ [some (txO T)], Tryd.f3.ntmps, []) := by obtain ⟨zz, b, off, n, c⟩ := s; cases zz <;> kernel_rfl
theorem eL10b : viewW (l456 ++ [27, 28]) (rtraceU Tryd.prog M (ovN Tryd.prog M) [] [] [] (fun l => l) (opsOf (itemN c3 10)) [1, 0] ⟨mkT Tryd.f3.ntmps l456 (v456 T) z, H2 s q n dh code T ++ [some (txO T)]⟩ [])
   = some (v456 T ++ [repQ q n dh code, repA s dh code], H2 s q n dh code T ++ [some (txO T)], Tryd.f3.ntmps, []) := by obtain ⟨zz, b, off, n, c⟩ := s; cases zz <;> kernel_rfl
theorem eL10c : viewW (l456 ++ [28]) (rtraceU Tryd.prog M (ovN Tryd.prog M) [] [] [] (fun l => l) (opsOf (itemN c3 10)) [1] ⟨mkT Tryd.f3.ntmps l456 (v456 T) z, H2 s q n dh code T ++ [some (txO T)]⟩ [])
   = some (v456 T ++ [repA s dh code], H2 s q n dh code T ++ [some (txO T)], Tryd.f3.ntmps, []) := by obtain ⟨zz, b, off, n, c⟩ := s; cases zz <;> kernel_rfl
theorem eL10d : lookT (aput (mkT Tryd.f3.ntmps (l456 ++ [27, 28]) (v456 T ++ [u, u']) z) (some 29) v') (l456 ++ [27, 29]) = v456 T ++ [u, v'] := by kernel_rfl
theorem eL10e : lookT (aput (mkT Tryd.f3.ntmps (l456 ++ [28]) (v456 T ++ [u]) z) (some 29) v') (l456 ++ [29]) = v456 T ++ [v'] := by kernel_rfl
variable (q' : Cp)
theorem eL10f : viewW (l456 ++ [27, 29]) (rtraceU Tryd.prog M (ovN Tryd.prog M) [] [] [] (fun l => l) (opsOf (itemN c3 10)) [0] ⟨mkT Tryd.f3.ntmps (l456 ++ [29]) (v456 T ++ [repQ q' n dh code]) z, H2 s q n dh code T ++ [some (txO T)]⟩ [])
   = some (v456 T ++ [repQ q n dh code, repQ q' n dh code], H2 s q n dh code T ++ [some (txO T)], Tryd.f3.ntmps, []) := by obtain ⟨zz, b, off, n, c⟩ := s; cases zz <;> kernel_rfl
theorem eL10g : viewW (l456 ++ [31]) (rtraceU Tryd.prog M (ovN Tryd.prog M) [] [conSum 9 (rep2 q q' n dh code) (.bool true) []] [] (fun l => l) (opsOf (itemN c3 10)) [3, 4] ⟨mkT Tryd.f3.ntmps (l456 ++ [27, 29]) (v456 T ++ [repQ q n dh code, repQ q' n dh code]) z, H2 s q n dh code T ++ [some (txO T)]⟩ [])
   = some (v456 T ++ [.bool false], H2 s q n dh code T ++ [some (txO T)], Tryd.f3.ntmps, [(fact (rep2 q q' n dh code = rep2 q q' n dh code), true)]) := by obtain ⟨zz, b, off, n, c⟩ := s; cases zz <;> kernel_rfl
theorem eL11 : viewU (l456 ++ [7]) (evL Tryd.prog M (ovN Tryd.prog M) [] [] [] [] 400 [itemN c3 11, itemN c3 12] ⟨mkT Tryd.f3.ntmps (l456 ++ [31]) (v456 T ++ [.bool false]) z, H2 s q n dh code T ++ [some (txO T)]⟩ [])
   = some (.normal, v456 T ++ [.int .i64 1], H2 s q n dh code T ++ [some (txO T)], Tryd.f3.ntmps, []) := by obtain ⟨zz, b, off, n, c⟩ := s; cases zz <;> kernel_rfl
/-! region 13 -/
theorem r13_f : drawOf (itemN c3 13) = false := by kernel_rfl
theorem r13_r : List.range (opsOf (itemN c3 13)).size = [0, 1] ++ (2 :: ([3] ++ [])) := by kernel_rfl
theorem r13_o : (opsOf (itemN c3 13))[2]? = some (opAt (itemN c3 13) 2) := by kernel_rfl
theorem r13_g : (opAt (itemN c3 13) 2).guard = none := by kernel_rfl
theorem r13_d : (opAt (itemN c3 13) 2).dst = some 34 := by kernel_rfl
theorem r13_p : (opAt (itemN c3 13) 2).op = .call ⟨.value (.func 10), #[.tmp 32, .tmp 33], #[30, 3]⟩ := by kernel_rfl
theorem eL13a : viewW (l456 ++ [32, 33]) (rtraceU Tryd.prog M (ovN Tryd.prog M) [] [] [] (fun l => l) (opsOf (itemN c3 13)) [0, 1] ⟨mkT Tryd.f3.ntmps (l456 ++ [7]) (v456 T ++ [.int .i64 1]) z, H2 s q n dh code T ++ [some (txO T)]⟩ [])
   = some (v456 T ++ [repQ q n dh code, .int .i64 1], H2 s q n dh code T ++ [some (txO T)], Tryd.f3.ntmps, []) := by obtain ⟨zz, b, off, n, c⟩ := s; cases zz <;> kernel_rfl
theorem eL13c : lookT (aput (mkT Tryd.f3.ntmps (l456 ++ [32, 33]) (v456 T ++ [u, u']) z) (some 34) v') (l456 ++ [34]) = v456 T ++ [v'] := by kernel_rfl
theorem eL13d : viewW (l456 ++ [7]) (rtraceU Tryd.prog M (ovN Tryd.prog M) [] [] [] (fun l => l) (opsOf (itemN c3 13)) [3] ⟨mkT Tryd.f3.ntmps (l456 ++ [34]) (v456 T ++ [.int .i64 k]) z, H2 s q n dh code T ++ [some (txO T)]⟩ [])
   = some (v456 T ++ [.int .i64 k], H2 s q n dh code T ++ [some (txO T)], Tryd.f3.ntmps, []) := by obtain ⟨zz, b, off, n, c⟩ := s; cases zz <;> kernel_rfl
theorem eL14 : viewU l456 (evL Tryd.prog M (ovN Tryd.prog M) [] [] [eqsSum8] [36, 41] 400 [itemN c3 14, itemN c3 15] ⟨mkT Tryd.f3.ntmps (l456 ++ [7]) (v456 T ++ [.int .i64 k]) z, H2 s q n dh code T ++ [some (txO T)]⟩ [false, false])
   = some (.normal, v456 T, H2 s q n dh code T ++ [some (txO T)], Tryd.f3.ntmps, (decide (k < 0), false) :: eqPin T) := by obtain ⟨zz, b, off, n, c⟩ := s; cases zz <;> kernel_rfl
theorem eL16 : viewU [1, 4] (evL Tryd.prog M (ovN Tryd.prog M) [] [] [markSum11, heldSum12] [50, 53] 400 [itemN c3 16, itemN c3 17, itemN c3 18, itemN c3 19, itemN c3 20, itemN c3 21, itemN c3 22, itemN c3 23] ⟨mkT Tryd.f3.ntmps l456 (v456 T) z, H2 s q n dh code T ++ [some (txO T)]⟩ [false, false])
   = some (.normal, [p3 0, slN 1 T.length], H2 s q n dh code T ++ [mkO T], Tryd.f3.ntmps, [(sliceB (txO T) T.length 0 T.length, true), (sliceB ⟨markC (tx T) 0 1 T.length, true, 1, true⟩ T.length 0 T.length, true), (heldC ⟨markC (tx T) 0 1 T.length, true, 1, true⟩ 0 T.length 1, true), (decide (cnt64 1 T.length < 0), false), (cnt64 1 T.length != cnt64 1 T.length, false)]) := by obtain ⟨zz, b, off, n, c⟩ := s; cases zz <;> kernel_rfl
/-! region 24 -/
theorem r24_f : drawOf (itemN c3 24) = false := by kernel_rfl
theorem r24_r : List.range (opsOf (itemN c3 24)).size = [0] ++ (1 :: ([2, 3] ++ [])) := by kernel_rfl
theorem r24_o : (opsOf (itemN c3 24))[1]? = some (opAt (itemN c3 24) 1) := by kernel_rfl
theorem r24_g : (opAt (itemN c3 24) 1).guard = none := by kernel_rfl
theorem r24_d : (opAt (itemN c3 24) 1).dst = some 55 := by kernel_rfl
theorem r24_p : (opAt (itemN c3 24) 1).op = .call ⟨.value (.func 6), #[.tmp 54], #[24]⟩ := by kernel_rfl
theorem eL24a : viewW [1, 4, 54] (rtraceU Tryd.prog M (ovN Tryd.prog M) [] [] [] (fun l => l) (opsOf (itemN c3 24)) [0] ⟨mkT Tryd.f3.ntmps [1, 4] [p3 0, slN 1 T.length] z, H2 s q n dh code T ++ [mkO T]⟩ [])
   = some ([p3 0, slN 1 T.length, repA s dh code], H2 s q n dh code T ++ [mkO T], Tryd.f3.ntmps, []) := by obtain ⟨zz, b, off, n, c⟩ := s; cases zz <;> kernel_rfl
theorem eL24c : lookT (aput (mkT Tryd.f3.ntmps [1, 4, 54] [p3 0, slN 1 T.length, u] z) (some 55) v') [1, 4, 55] = [p3 0, slN 1 T.length, v'] := by kernel_rfl
theorem eL24d : viewW [4, 10] (rtraceU Tryd.prog M (ovN Tryd.prog M) [] [conSum 7 [repQ q' n dh code] (slN 0 T.length) [txO T]] [] (fun l => l) (opsOf (itemN c3 24)) [2, 3] ⟨mkT Tryd.f3.ntmps [1, 4, 55] [p3 0, slN 1 T.length, repQ q' n dh code] z, H2 s q n dh code T ++ [mkO T]⟩ [])
   = some ([slN 1 T.length, slN 4 T.length], H2 s q n dh code T ++ [mkO T, some (txO T)], Tryd.f3.ntmps, [(fact ([repQ q' n dh code] = [repQ q' n dh code]), true)]) := by obtain ⟨zz, b, off, n, c⟩ := s; cases zz <;> kernel_rfl
theorem eL25 : viewU [2] (evL Tryd.prog M (ovN Tryd.prog M) [] [] [eqsSum8] [60] 400 [itemN c3 25, itemN c3 26, itemN c3 27, itemN c3 28] ⟨mkT Tryd.f3.ntmps [4, 10] [slN 1 T.length, slN 4 T.length] z, H2 s q n dh code T ++ [mkO T, some (txO T)]⟩ [false])
   = some (.ret, [.bool true], H2 s q n dh code T ++ [mkO T, some (txO T)], Tryd.f3.ntmps, eqPin T) := by obtain ⟨zz, b, off, n, c⟩ := s; cases zz <;> kernel_rfl
end
end Go.Proofs.YtfkdcpinajnbfaaDoor
