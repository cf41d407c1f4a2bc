/- The method table of the limiter, piece by piece, evaluated.
   Conditions: none. -/
import Derived.Test.YtfkdcpinajnbfaaMap2
open Go.Ab
set_option linter.unusedVariables false
set_option linter.unusedSimpArgs false
namespace Go.Proofs.Ytfkdcpinajnbfaa

noncomputable def c19 : Code := Try.f19.body.getD .skip
noncomputable def b19 : Code := loopOf 0 c19
noncomputable def d19 : Code := (occ 1 c19).getD 0 .skip
set_option maxRecDepth 100000
theorem body19 : Try.f19.body = some c19 := by kernel_rfl
theorem items19 : items c19 = [itemN c19 0, itemN c19 1, itemN c19 2, itemN c19 3, itemN c19 4, .block 0 (.loop b19), itemN c19 6, itemN c19 7] := by kernel_rfl
theorem itemsB19 : items b19 = [itemN b19 0, itemN b19 1, .block 1 d19, itemN b19 3] := by kernel_rfl
theorem itemsD19 : items d19 = [itemN d19 0, itemN d19 1, itemN d19 2, itemN d19 3] := by kernel_rfl

abbrev N19 : Nat := 86
theorem ntmps19 : Try.f19.ntmps = N19 := by kernel_rfl

/-- The limiter's box. -/
abbrev bxV (sl : Value) (most sw : Int) : AObj := ⟨[.int .i64 most, .int .i64 sw, sl], false, 1, false⟩
abbrev slR (n c : Nat) : Value := .slice (some ⟨0, 0, some (n * 11)⟩) n c
/-- The memory with the buckets, and without. -/
abbrev hS (R : List Value) (gr : Bool) (es n c : Nat) (most sw : Int) : AHeap := [some ⟨R, gr, es, true⟩, some (bxV (slR n c) most sw)]
abbrev hZ (most sw : Int) : AHeap := [some (bxV (.slice none 0 0) most sw)]

def headP (b0 b1 b2 b3 b4 b5 : Bool) (n : Nat) (most sw now : Int) : Pins :=
  [(decide (now < 0), b0), (decide (most < 1), b1), (decide (most > 4096), b2), (decide ((n : Int) > most), b3), (decide (sw < 0), b4), (decide (sw > now), b5)]

section
variable (M : Mem) (R : List Value) (gr : Bool) (es n c mb k : Nat) (most sw now : Int) (z : Nat → Value)

abbrev vS : List Value := [.int .i64 now, .pointer (some ⟨1, 0, some 3⟩), .map none]
abbrev vZ : List Value := [.int .i64 now, .pointer (some ⟨0, 0, some 3⟩), .map none]

theorem headS : viewU [1, 2, 4] (evL Try.prog M (ovS shT Try.prog M) [] [] [] [9, 13, 18, 26, 31, 37] 200 [itemN c19 0, itemN c19 1, itemN c19 2] ⟨[.agg #[.int .i64 most, .int .i64 sw, slR n c], .int .i64 now] ++ List.replicate (Try.f19.ntmps - 2) undef, [some ⟨R, gr, es, true⟩]⟩ [false, false, false, false, false, false])
   = some (.normal, vS now, hS R gr es n c most sw, N19, headP false false false false false false n most sw now) := by kernel_rfl
theorem headZ : viewU [1, 2, 4] (evL Try.prog M (ovS shT Try.prog M) [] [] [] [9, 13, 18, 26, 31, 37] 200 [itemN c19 0, itemN c19 1, itemN c19 2] ⟨[.agg #[.int .i64 most, .int .i64 sw, .slice none 0 0], .int .i64 now] ++ List.replicate (Try.f19.ntmps - 2) undef, []⟩ [false, false, false, false, false, false])
   = some (.normal, vZ now, hZ most sw, N19, headP false false false false false false 0 most sw now) := by kernel_rfl
def badP (j : Nat) (n : Nat) (most sw now : Int) : Pins := ((headP false false false false false false n most sw now).take j) ++ ((headP true true true true true true n most sw now).drop j).take 1
def badO (j : Nat) : List Bool := List.replicate j false ++ [true]
theorem badS (j : Nat) (hj : j < 6) : viewU [1, 2, 4] (evL Try.prog M (ovS shT Try.prog M) [] [] [] [9, 13, 18, 26, 31, 37] 200 [itemN c19 0, itemN c19 1, itemN c19 2] ⟨[.agg #[.int .i64 most, .int .i64 sw, slR n c], .int .i64 now] ++ List.replicate (Try.f19.ntmps - 2) undef, [some ⟨R, gr, es, true⟩]⟩ (badO j))
   = some (.ret, vS now, hS R gr es n c most sw, N19, badP j n most sw now) := by
  obtain rfl | rfl | rfl | rfl | rfl | rfl : j = 0 ∨ j = 1 ∨ j = 2 ∨ j = 3 ∨ j = 4 ∨ j = 5 := by omega
  all_goals kernel_rfl
theorem badZ (j : Nat) (hj : j < 6) : viewU [1, 2, 4] (evL Try.prog M (ovS shT Try.prog M) [] [] [] [9, 13, 18, 26, 31, 37] 200 [itemN c19 0, itemN c19 1, itemN c19 2] ⟨[.agg #[.int .i64 most, .int .i64 sw, .slice none 0 0], .int .i64 now] ++ List.replicate (Try.f19.ntmps - 2) undef, []⟩ (badO j))
   = some (.ret, vZ now, hZ most sw, N19, badP j 0 most sw now) := by
  obtain rfl | rfl | rfl | rfl | rfl | rfl : j = 0 ∨ j = 1 ∨ j = 2 ∨ j = 3 ∨ j = 4 ∨ j = 5 := by omega
  all_goals kernel_rfl

theorem lenS : viewR [1, 2, 4, 41] (rruns Try.prog M (fnsC []) (fun l => l) (opsOf (itemN c19 3)) [0, 1, 2] ⟨mkT N19 [1, 2, 4] (vS now) z, hS R gr es n c most sw⟩) = some (vS now ++ [.int .i64 n], hS R gr es n c most sw, N19) := by kernel_rfl
theorem lenZ : viewR [1, 2, 4, 41] (rruns Try.prog M (fnsC []) (fun l => l) (opsOf (itemN c19 3)) [0, 1, 2] ⟨mkT N19 [1, 2, 4] (vZ now) z, hZ most sw⟩) = some (vZ now ++ [.int .i64 0], hZ most sw, N19) := by kernel_rfl
theorem putS (p : Value) : lookT (aput (mkT N19 [1, 2, 4, 41] (vS now ++ [.int .i64 n]) z) (some 42) p) [1, 2, 4, 42] = vS now ++ [p] := by kernel_rfl
theorem putZ (p : Value) : lookT (aput (mkT N19 [1, 2, 4, 41] (vZ now ++ [.int .i64 0]) z) (some 42) p) [1, 2, 4, 42] = vZ now ++ [p] := by kernel_rfl

abbrev wS (x : List Value) : List Value := [.int .i64 now, .pointer (some ⟨1, 0, some 3⟩), .map none, .map (some mb)] ++ x
abbrev wZ (x : List Value) : List Value := [.int .i64 now, .pointer (some ⟨0, 0, some 3⟩), .map none, .map (some mb)] ++ x
theorem asgS : viewR [1, 2, 4, 5] (rruns Try.prog M (fnsC []) (fun l => l) (opsOf (itemN c19 3)) [4] ⟨mkT N19 [1, 2, 4, 42] (vS now ++ [.map (some mb)]) z, hS R gr es n c most sw⟩) = some (wS mb now [], hS R gr es n c most sw, N19) := by kernel_rfl
theorem asgZ : viewR [1, 2, 4, 5] (rruns Try.prog M (fnsC []) (fun l => l) (opsOf (itemN c19 3)) [4] ⟨mkT N19 [1, 2, 4, 42] (vZ now ++ [.map (some mb)]) z, hZ most sw⟩) = some (wZ mb now [], hZ most sw, N19) := by kernel_rfl
theorem rngS : viewU [1, 2, 4, 5, 44, 45, 46] (evL Try.prog M (ovS shT Try.prog M) [] [] [] [] 200 [itemN c19 4] ⟨mkT N19 [1, 2, 4, 5] (wS mb now []) z, hS R gr es n c most sw⟩ []) = some (.normal, wS mb now [slR n c, .int .i64 n, .int .i64 0], hS R gr es n c most sw, N19, []) := by kernel_rfl
theorem rngZ : viewU [1, 2, 4, 5, 44, 45, 46] (evL Try.prog M (ovS shT Try.prog M) [] [] [] [] 200 [itemN c19 4] ⟨mkT N19 [1, 2, 4, 5] (wZ mb now []) z, hZ most sw⟩ []) = some (.normal, wZ mb now [.slice none 0 0, .int .i64 0, .int .i64 0], hZ most sw, N19, []) := by kernel_rfl

/-- A round of the loop: the bucket is taken. -/
theorem tkS (i : Int) : viewU [1, 2, 4, 5, 44, 45, 46] (evL Try.prog M (ovS shT Try.prog M) [] [] [] [47] 200 [itemN b19 0, itemN b19 1] ⟨mkT N19 [1, 2, 4, 5, 44, 45, 46] (wS mb now [slR n c, .int .i64 n, .int .i64 i]) z, hS R gr es n c most sw⟩ [true])
   = some (.normal, wS mb now [slR n c, .int .i64 n, .int .i64 i], hS R gr es n c most sw, N19, [(decide (i < (n : Int)), true)]) := by kernel_rfl
theorem exS (i : Int) : viewU [1, 2, 4, 5, 44, 45, 46] (evL Try.prog M (ovS shT Try.prog M) [] [] [] [47] 200 [itemN b19 0, itemN b19 1] ⟨mkT N19 [1, 2, 4, 5, 44, 45, 46] (wS mb now [slR n c, .int .i64 n, .int .i64 i]) z, hS R gr es n c most sw⟩ [false])
   = some (.exit 0, wS mb now [slR n c, .int .i64 n, .int .i64 i], hS R gr es n c most sw, N19, [(decide (i < (n : Int)), false)]) := by kernel_rfl
theorem exZ : viewU [1, 2, 4, 5, 44, 45, 46] (evL Try.prog M (ovS shT Try.prog M) [] [] [] [] 200 [itemN b19 0, itemN b19 1] ⟨mkT N19 [1, 2, 4, 5, 44, 45, 46] (wZ mb now [.slice none 0 0, .int .i64 0, .int .i64 0]) z, hZ most sw⟩ [])
   = some (.exit 0, wZ mb now [.slice none 0 0, .int .i64 0, .int .i64 0], hZ most sw, N19, []) := by kernel_rfl

abbrev hB (b : Bk) : AHeap := hS R gr es n c most sw ++ [some ⟨bc b, false, 1, true⟩]
theorem ldS (i : Int) : viewU [1, 2, 4, 5, 44, 45, 46, 6, 7] (evL Try.prog M (ovS shT Try.prog M) [49, 50] [] [] [] 200 [itemN d19 0] ⟨mkT N19 [1, 2, 4, 5, 44, 45, 46] (wS mb now [slR n c, .int .i64 n, .int .i64 i]) z, hS R gr es n c most sw⟩ [])
   = some (.normal, wS mb now [slR n c, .int .i64 n, .int .i64 i, .int .i64 i, .pointer (some ⟨2, 0, some 11⟩)], hB R gr es n c most sw (bkAt R (0 + i.toNat * 11)), N19,
      [(inB i n, true), (decide (R.length = n * 11) && (decide (0 + i.toNat * 11 + 11 ≤ n * 11) && shpB R (0 + i.toNat * 11) shBk), true)]) := by kernel_rfl
abbrev xS (i : Int) (x : List Value) : List Value := wS mb now ([slR n c, .int .i64 n, .int .i64 i, .int .i64 i, .pointer (some ⟨2, 0, some 11⟩)] ++ x)
theorem keyS (i : Int) (b : Bk) : viewR [1, 2, 4, 5, 44, 45, 46, 6, 7, 51, 53] (rruns Try.prog M (fnsC []) (fun l => l) (opsOf (itemN d19 1)) [0, 1, 2] ⟨mkT N19 [1, 2, 4, 5, 44, 45, 46, 6, 7] (xS n c mb now i []) z, hB R gr es n c most sw b⟩)
   = some (xS n c mb now i [.map (some mb), kv b.k], hB R gr es n c most sw b, N19) := by kernel_rfl
theorem putK (i : Int) (b : Bk) (p : Value) : lookT (aput (mkT N19 [1, 2, 4, 5, 44, 45, 46, 6, 7, 51, 53] (xS n c mb now i [.map (some mb), kv b.k]) z) (some 54) p) [1, 2, 4, 5, 44, 45, 46, 6, 7, 54] = xS n c mb now i [p] := by kernel_rfl

def rowP (b0 b1 b2 b3 : Bool) (b : Bk) (now : Int) : Pins := [(decide (b.tok < 0), b0), (decide (b.tok > 250000000), b1), (decide (b.last < 0), b2), (decide (b.last > now), b3)]
/-- The key is new: the four tests. -/
theorem okS (i : Int) (b : Bk) : viewW [1, 2, 4, 5, 44, 45, 46, 6, 7, 76] (rtraceU Try.prog M (ovS shT Try.prog M) [] [] [59, 64, 69, 75] (fun l => l) (opsOf (itemN d19 1)) [4, 5, 6, 7, 8, 9, 10, 11, 12, 13, 14, 15, 16, 17, 18, 19, 20, 21, 22, 23, 24, 25] ⟨mkT N19 [1, 2, 4, 5, 44, 45, 46, 6, 7, 54] (xS n c mb now i [.pointer none]) z, hB R gr es n c most sw b⟩ [false, false, false, false])
   = some (xS n c mb now i [.bool false], hB R gr es n c most sw b, N19, rowP false false false false b now) := by kernel_rfl
def badR (j : Nat) (b : Bk) (now : Int) : Pins := (rowP false false false false b now).take j ++ ((rowP true true true true b now).drop j).take 1
theorem noS (i : Int) (b : Bk) (j : Nat) (hj : j < 4) : viewW [1, 2, 4, 5, 44, 45, 46, 6, 7, 76] (rtraceU Try.prog M (ovS shT Try.prog M) [] [] [59, 64, 69, 75] (fun l => l) (opsOf (itemN d19 1)) [4, 5, 6, 7, 8, 9, 10, 11, 12, 13, 14, 15, 16, 17, 18, 19, 20, 21, 22, 23, 24, 25] ⟨mkT N19 [1, 2, 4, 5, 44, 45, 46, 6, 7, 54] (xS n c mb now i [.pointer none]) z, hB R gr es n c most sw b⟩ (badO j))
   = some (xS n c mb now i [.bool true], hB R gr es n c most sw b, N19, badR j b now) := by
  obtain rfl | rfl | rfl | rfl : j = 0 ∨ j = 1 ∨ j = 2 ∨ j = 3 := by omega
  all_goals kernel_rfl
theorem dupS (i : Int) (b : Bk) (q : Nat) : viewW [1, 2, 4, 5, 44, 45, 46, 6, 7, 76] (rtraceU Try.prog M (ovS shT Try.prog M) [] [] [59, 64, 69, 75] (fun l => l) (opsOf (itemN d19 1)) [4, 5, 6, 7, 8, 9, 10, 11, 12, 13, 14, 15, 16, 17, 18, 19, 20, 21, 22, 23, 24, 25] ⟨mkT N19 [1, 2, 4, 5, 44, 45, 46, 6, 7, 54] (xS n c mb now i [.pointer (some ⟨q, 0, none⟩)]) z, hB R gr es n c most sw b⟩ [])
   = some (xS n c mb now i [.bool true], hB R gr es n c most sw b, N19, []) := by kernel_rfl
theorem goS (i : Int) (b : Bk) : viewU [1, 2, 4, 5, 44, 45, 46, 6, 7] (evL Try.prog M (ovS shT Try.prog M) [] [] [] [] 200 [itemN d19 2] ⟨mkT N19 [1, 2, 4, 5, 44, 45, 46, 6, 7, 76] (xS n c mb now i [.bool false]) z, hB R gr es n c most sw b⟩ [])
   = some (.normal, xS n c mb now i [], hB R gr es n c most sw b, N19, []) := by kernel_rfl
theorem reS (i : Int) (b : Bk) : viewU [1, 2, 4, 5, 44, 45, 46, 6, 7] (evL Try.prog M (ovS shT Try.prog M) [] [] [] [] 200 [itemN d19 2] ⟨mkT N19 [1, 2, 4, 5, 44, 45, 46, 6, 7, 76] (xS n c mb now i [.bool true]) z, hB R gr es n c most sw b⟩ [])
   = some (.ret, xS n c mb now i [], hB R gr es n c most sw b, N19, []) := by kernel_rfl
theorem boxS (i : Int) (b : Bk) : viewR [1, 2, 4, 5, 44, 45, 46, 77, 79, 83] (rruns Try.prog M (fnsC []) (fun l => l) (opsOf (itemN d19 3)) [0, 1, 2, 3, 4, 5, 6] ⟨mkT N19 [1, 2, 4, 5, 44, 45, 46, 6, 7] (xS n c mb now i []) z, hB R gr es n c most sw b⟩)
   = some (wS mb now [slR n c, .int .i64 n, .int .i64 i, .map (some mb), kv b.k, .pointer (some ⟨3, 0, some 12⟩)], hB R gr es n c most sw b ++ [some ⟨ec b i, false, 1, true⟩], N19) := by kernel_rfl
theorem incS (i : Int) : viewU [1, 2, 4, 5, 44, 45, 46] (evL Try.prog M (ovS shT Try.prog M) [] [] [] [] 200 [itemN b19 3] ⟨mkT N19 [1, 2, 4, 5, 44, 45, 46] (wS mb now [slR n c, .int .i64 n, .int .i64 i]) z, hS R gr es n c most sw⟩ [])
   = some (.normal, wS mb now [slR n c, .int .i64 n, .int .i64 (IntKind.wrap .i64 (i + 1))], hS R gr es n c most sw, N19, []) := by kernel_rfl
theorem endS (i : Int) : viewU [4] (evL Try.prog M (ovS shT Try.prog M) [] [] [] [] 200 [itemN c19 6, itemN c19 7] ⟨mkT N19 [1, 2, 4, 5, 44, 45, 46] (wS mb now [slR n c, .int .i64 n, .int .i64 i]) z, hS R gr es n c most sw⟩ [])
   = some (.ret, [.map (some mb)], hS R gr es n c most sw, N19, []) := by kernel_rfl
theorem endZ : viewU [4] (evL Try.prog M (ovS shT Try.prog M) [] [] [] [] 200 [itemN c19 6, itemN c19 7] ⟨mkT N19 [1, 2, 4, 5, 44, 45, 46] (wZ mb now [.slice none 0 0, .int .i64 0, .int .i64 0]) z, hZ most sw⟩ [])
   = some (.ret, [.map (some mb)], hZ most sw, N19, []) := by kernel_rfl
end
end Go.Proofs.Ytfkdcpinajnbfaa
