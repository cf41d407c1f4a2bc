/- The specification's Poly1305: one round of its loop, evaluated for each length of a piece.
   Conditions: the digits are in bounds. -/
import Derived.Test.YtgnbmjhljlbkhaaDoorGA
import Derived.Test.YtgnbmjhljlbkhaaDoorSProd
open Go.Ab Go.Num
set_option linter.unusedVariables false
set_option linter.unusedSimpArgs false
namespace Go.Proofs.YtgnbmjhljlbkhaaDoor

noncomputable def loopS : Code := loopOf 2 (Tryd.f63.body.getD .skip)
set_option maxRecDepth 100000 in
theorem occS : occ 2 (Tryd.f63.body.getD .skip) = [.loop loopS] := by kernel_rfl
set_option maxRecDepth 100000 in
theorem occA' : occ 6 loopS = [.loop loopA] := by kernel_rfl

def vsS (f s n c : Nat) (at0 : Int) (ia sa ca : Nat) : List Value := [.slice (some ⟨0, f, some s⟩) n c, .pointer (some ⟨1, 0, some 32⟩), .pointer (some ⟨2, 0, some 16⟩), .slice (some ⟨3, 0, some 16⟩) 16 16, .slice (some ⟨ia, 0, some sa⟩) 17 ca, .int .i64 at0]
def hsS (cells : List Value) (r : Nat → Int) (q : Nat → AObj) (x : List (Option AObj)) : AHeap :=
  [some ⟨cells, true, 1, true⟩, ob (q 1), ob (q 2), some ⟨cellsI .i64 16 r, true, 1, true⟩, ob (q 4), ob (q 5), ob (q 6), ob (q 7), ob (q 8), ob (q 9), ob (q 10), ob (q 11), ob (q 12), ob (q 13), ob (q 14), ob (q 15), ob (q 16), ob (q 17), ob (q 18), ob (q 19)] ++ x

set_option maxRecDepth 100000 in
theorem stepS1_1 (M : Mem) (f s n c : Nat) (at0 : Int) (cells : List Value) (q : Nat → AObj) (acc r : Nat → Int) (z : Nat → Value) :
   viewK liveS [24] 21 3 (evU Tryd.prog M (ovX Tryd.prog M) [81, 82] [(6, mkHook Tryd.prog M 6 (.loop loopA) 154 liveA hookA1 liveA)] [modSum 69] [54, 71] 3000 loopS ⟨mkT 154 liveS (vsS f s n c at0 20 17 17) z, hsS cells r q [some ⟨cellsI .i64 17 acc, true, 1, true⟩]⟩ [true, true, false])
   = some (.normal, vsS f s n c (IntKind.i64.wrap (at0 + 16)) 21 40 40, hsS cells r q [some ⟨cellsI .i64 17 acc, true, 1, true⟩, some ⟨cellsI .i64 40 (newS 1 acc r cells f at0), true, 1, true⟩], 154, stepPins cells f s n at0 1 acc r) := by kernel_rfl
set_option maxRecDepth 100000 in
theorem stepS1_2 (M : Mem) (f s n c : Nat) (at0 : Int) (cells : List Value) (q : Nat → AObj) (acc r : Nat → Int) (z : Nat → Value) :
   viewK liveS [24] 21 3 (evU Tryd.prog M (ovX Tryd.prog M) [81, 82] [(6, mkHook Tryd.prog M 6 (.loop loopA) 154 liveA hookA1 liveA)] [modSum 69] [54, 71] 3000 loopS ⟨mkT 154 liveS (vsS f s n c at0 20 17 17) z, hsS cells r q [some ⟨cellsI .i64 17 acc, true, 1, true⟩]⟩ [true, true, true, false])
   = some (.normal, vsS f s n c (IntKind.i64.wrap (at0 + 16)) 21 40 40, hsS cells r q [some ⟨cellsI .i64 17 acc, true, 1, true⟩, some ⟨cellsI .i64 40 (newS 2 acc r cells f at0), true, 1, true⟩], 154, stepPins cells f s n at0 2 acc r) := by kernel_rfl
set_option maxRecDepth 100000 in
theorem stepS1_3 (M : Mem) (f s n c : Nat) (at0 : Int) (cells : List Value) (q : Nat → AObj) (acc r : Nat → Int) (z : Nat → Value) :
   viewK liveS [24] 21 3 (evU Tryd.prog M (ovX Tryd.prog M) [81, 82] [(6, mkHook Tryd.prog M 6 (.loop loopA) 154 liveA hookA1 liveA)] [modSum 69] [54, 71] 3000 loopS ⟨mkT 154 liveS (vsS f s n c at0 20 17 17) z, hsS cells r q [some ⟨cellsI .i64 17 acc, true, 1, true⟩]⟩ [true, true, true, true, false])
   = some (.normal, vsS f s n c (IntKind.i64.wrap (at0 + 16)) 21 40 40, hsS cells r q [some ⟨cellsI .i64 17 acc, true, 1, true⟩, some ⟨cellsI .i64 40 (newS 3 acc r cells f at0), true, 1, true⟩], 154, stepPins cells f s n at0 3 acc r) := by kernel_rfl
set_option maxRecDepth 100000 in
theorem stepS1_4 (M : Mem) (f s n c : Nat) (at0 : Int) (cells : List Value) (q : Nat → AObj) (acc r : Nat → Int) (z : Nat → Value) :
   viewK liveS [24] 21 3 (evU Tryd.prog M (ovX Tryd.prog M) [81, 82] [(6, mkHook Tryd.prog M 6 (.loop loopA) 154 liveA hookA1 liveA)] [modSum 69] [54, 71] 3000 loopS ⟨mkT 154 liveS (vsS f s n c at0 20 17 17) z, hsS cells r q [some ⟨cellsI .i64 17 acc, true, 1, true⟩]⟩ [true, true, true, true, true, false])
   = some (.normal, vsS f s n c (IntKind.i64.wrap (at0 + 16)) 21 40 40, hsS cells r q [some ⟨cellsI .i64 17 acc, true, 1, true⟩, some ⟨cellsI .i64 40 (newS 4 acc r cells f at0), true, 1, true⟩], 154, stepPins cells f s n at0 4 acc r) := by kernel_rfl
set_option maxRecDepth 100000 in
theorem stepS1_5 (M : Mem) (f s n c : Nat) (at0 : Int) (cells : List Value) (q : Nat → AObj) (acc r : Nat → Int) (z : Nat → Value) :
   viewK liveS [24] 21 3 (evU Tryd.prog M (ovX Tryd.prog M) [81, 82] [(6, mkHook Tryd.prog M 6 (.loop loopA) 154 liveA hookA1 liveA)] [modSum 69] [54, 71] 3000 loopS ⟨mkT 154 liveS (vsS f s n c at0 20 17 17) z, hsS cells r q [some ⟨cellsI .i64 17 acc, true, 1, true⟩]⟩ [true, true, true, true, true, true, false])
   = some (.normal, vsS f s n c (IntKind.i64.wrap (at0 + 16)) 21 40 40, hsS cells r q [some ⟨cellsI .i64 17 acc, true, 1, true⟩, some ⟨cellsI .i64 40 (newS 5 acc r cells f at0), true, 1, true⟩], 154, stepPins cells f s n at0 5 acc r) := by kernel_rfl
set_option maxRecDepth 100000 in
theorem stepS1_6 (M : Mem) (f s n c : Nat) (at0 : Int) (cells : List Value) (q : Nat → AObj) (acc r : Nat → Int) (z : Nat → Value) :
   viewK liveS [24] 21 3 (evU Tryd.prog M (ovX Tryd.prog M) [81, 82] [(6, mkHook Tryd.prog M 6 (.loop loopA) 154 liveA hookA1 liveA)] [modSum 69] [54, 71] 3000 loopS ⟨mkT 154 liveS (vsS f s n c at0 20 17 17) z, hsS cells r q [some ⟨cellsI .i64 17 acc, true, 1, true⟩]⟩ [true, true, true, true, true, true, true, false])
   = some (.normal, vsS f s n c (IntKind.i64.wrap (at0 + 16)) 21 40 40, hsS cells r q [some ⟨cellsI .i64 17 acc, true, 1, true⟩, some ⟨cellsI .i64 40 (newS 6 acc r cells f at0), true, 1, true⟩], 154, stepPins cells f s n at0 6 acc r) := by kernel_rfl
set_option maxRecDepth 100000 in
theorem stepS1_7 (M : Mem) (f s n c : Nat) (at0 : Int) (cells : List Value) (q : Nat → AObj) (acc r : Nat → Int) (z : Nat → Value) :
   viewK liveS [24] 21 3 (evU Tryd.prog M (ovX Tryd.prog M) [81, 82] [(6, mkHook Tryd.prog M 6 (.loop loopA) 154 liveA hookA1 liveA)] [modSum 69] [54, 71] 3000 loopS ⟨mkT 154 liveS (vsS f s n c at0 20 17 17) z, hsS cells r q [some ⟨cellsI .i64 17 acc, true, 1, true⟩]⟩ [true, true, true, true, true, true, true, true, false])
   = some (.normal, vsS f s n c (IntKind.i64.wrap (at0 + 16)) 21 40 40, hsS cells r q [some ⟨cellsI .i64 17 acc, true, 1, true⟩, some ⟨cellsI .i64 40 (newS 7 acc r cells f at0), true, 1, true⟩], 154, stepPins cells f s n at0 7 acc r) := by kernel_rfl
set_option maxRecDepth 100000 in
theorem stepS1_8 (M : Mem) (f s n c : Nat) (at0 : Int) (cells : List Value) (q : Nat → AObj) (acc r : Nat → Int) (z : Nat → Value) :
   viewK liveS [24] 21 3 (evU Tryd.prog M (ovX Tryd.prog M) [81, 82] [(6, mkHook Tryd.prog M 6 (.loop loopA) 154 liveA hookA1 liveA)] [modSum 69] [54, 71] 3000 loopS ⟨mkT 154 liveS (vsS f s n c at0 20 17 17) z, hsS cells r q [some ⟨cellsI .i64 17 acc, true, 1, true⟩]⟩ [true, true, true, true, true, true, true, true, true, false])
   = some (.normal, vsS f s n c (IntKind.i64.wrap (at0 + 16)) 21 40 40, hsS cells r q [some ⟨cellsI .i64 17 acc, true, 1, true⟩, some ⟨cellsI .i64 40 (newS 8 acc r cells f at0), true, 1, true⟩], 154, stepPins cells f s n at0 8 acc r) := by kernel_rfl
set_option maxRecDepth 100000 in
theorem stepS1_9 (M : Mem) (f s n c : Nat) (at0 : Int) (cells : List Value) (q : Nat → AObj) (acc r : Nat → Int) (z : Nat → Value) :
   viewK liveS [24] 21 3 (evU Tryd.prog M (ovX Tryd.prog M) [81, 82] [(6, mkHook Tryd.prog M 6 (.loop loopA) 154 liveA hookA1 liveA)] [modSum 69] [54, 71] 3000 loopS ⟨mkT 154 liveS (vsS f s n c at0 20 17 17) z, hsS cells r q [some ⟨cellsI .i64 17 acc, true, 1, true⟩]⟩ [true, true, true, true, true, true, true, true, true, true, false])
   = some (.normal, vsS f s n c (IntKind.i64.wrap (at0 + 16)) 21 40 40, hsS cells r q [some ⟨cellsI .i64 17 acc, true, 1, true⟩, some ⟨cellsI .i64 40 (newS 9 acc r cells f at0), true, 1, true⟩], 154, stepPins cells f s n at0 9 acc r) := by kernel_rfl
set_option maxRecDepth 100000 in
theorem stepS1_10 (M : Mem) (f s n c : Nat) (at0 : Int) (cells : List Value) (q : Nat → AObj) (acc r : Nat → Int) (z : Nat → Value) :
   viewK liveS [24] 21 3 (evU Tryd.prog M (ovX Tryd.prog M) [81, 82] [(6, mkHook Tryd.prog M 6 (.loop loopA) 154 liveA hookA1 liveA)] [modSum 69] [54, 71] 3000 loopS ⟨mkT 154 liveS (vsS f s n c at0 20 17 17) z, hsS cells r q [some ⟨cellsI .i64 17 acc, true, 1, true⟩]⟩ [true, true, true, true, true, true, true, true, true, true, true, false])
   = some (.normal, vsS f s n c (IntKind.i64.wrap (at0 + 16)) 21 40 40, hsS cells r q [some ⟨cellsI .i64 17 acc, true, 1, true⟩, some ⟨cellsI .i64 40 (newS 10 acc r cells f at0), true, 1, true⟩], 154, stepPins cells f s n at0 10 acc r) := by kernel_rfl
set_option maxRecDepth 100000 in
theorem stepS1_11 (M : Mem) (f s n c : Nat) (at0 : Int) (cells : List Value) (q : Nat → AObj) (acc r : Nat → Int) (z : Nat → Value) :
   viewK liveS [24] 21 3 (evU Tryd.prog M (ovX Tryd.prog M) [81, 82] [(6, mkHook Tryd.prog M 6 (.loop loopA) 154 liveA hookA1 liveA)] [modSum 69] [54, 71] 3000 loopS ⟨mkT 154 liveS (vsS f s n c at0 20 17 17) z, hsS cells r q [some ⟨cellsI .i64 17 acc, true, 1, true⟩]⟩ [true, true, true, true, true, true, true, true, true, true, true, true, false])
   = some (.normal, vsS f s n c (IntKind.i64.wrap (at0 + 16)) 21 40 40, hsS cells r q [some ⟨cellsI .i64 17 acc, true, 1, true⟩, some ⟨cellsI .i64 40 (newS 11 acc r cells f at0), true, 1, true⟩], 154, stepPins cells f s n at0 11 acc r) := by kernel_rfl
set_option maxRecDepth 100000 in
theorem stepS1_12 (M : Mem) (f s n c : Nat) (at0 : Int) (cells : List Value) (q : Nat → AObj) (acc r : Nat → Int) (z : Nat → Value) :
   viewK liveS [24] 21 3 (evU Tryd.prog M (ovX Tryd.prog M) [81, 82] [(6, mkHook Tryd.prog M 6 (.loop loopA) 154 liveA hookA1 liveA)] [modSum 69] [54, 71] 3000 loopS ⟨mkT 154 liveS (vsS f s n c at0 20 17 17) z, hsS cells r q [some ⟨cellsI .i64 17 acc, true, 1, true⟩]⟩ [true, true, true, true, true, true, true, true, true, true, true, true, true, false])
   = some (.normal, vsS f s n c (IntKind.i64.wrap (at0 + 16)) 21 40 40, hsS cells r q [some ⟨cellsI .i64 17 acc, true, 1, true⟩, some ⟨cellsI .i64 40 (newS 12 acc r cells f at0), true, 1, true⟩], 154, stepPins cells f s n at0 12 acc r) := by kernel_rfl
set_option maxRecDepth 100000 in
theorem stepS1_13 (M : Mem) (f s n c : Nat) (at0 : Int) (cells : List Value) (q : Nat → AObj) (acc r : Nat → Int) (z : Nat → Value) :
   viewK liveS [24] 21 3 (evU Tryd.prog M (ovX Tryd.prog M) [81, 82] [(6, mkHook Tryd.prog M 6 (.loop loopA) 154 liveA hookA1 liveA)] [modSum 69] [54, 71] 3000 loopS ⟨mkT 154 liveS (vsS f s n c at0 20 17 17) z, hsS cells r q [some ⟨cellsI .i64 17 acc, true, 1, true⟩]⟩ [true, true, true, true, true, true, true, true, true, true, true, true, true, true, false])
   = some (.normal, vsS f s n c (IntKind.i64.wrap (at0 + 16)) 21 40 40, hsS cells r q [some ⟨cellsI .i64 17 acc, true, 1, true⟩, some ⟨cellsI .i64 40 (newS 13 acc r cells f at0), true, 1, true⟩], 154, stepPins cells f s n at0 13 acc r) := by kernel_rfl
set_option maxRecDepth 100000 in
theorem stepS1_14 (M : Mem) (f s n c : Nat) (at0 : Int) (cells : List Value) (q : Nat → AObj) (acc r : Nat → Int) (z : Nat → Value) :
   viewK liveS [24] 21 3 (evU Tryd.prog M (ovX Tryd.prog M) [81, 82] [(6, mkHook Tryd.prog M 6 (.loop loopA) 154 liveA hookA1 liveA)] [modSum 69] [54, 71] 3000 loopS ⟨mkT 154 liveS (vsS f s n c at0 20 17 17) z, hsS cells r q [some ⟨cellsI .i64 17 acc, true, 1, true⟩]⟩ [true, true, true, true, true, true, true, true, true, true, true, true, true, true, true, false])
   = some (.normal, vsS f s n c (IntKind.i64.wrap (at0 + 16)) 21 40 40, hsS cells r q [some ⟨cellsI .i64 17 acc, true, 1, true⟩, some ⟨cellsI .i64 40 (newS 14 acc r cells f at0), true, 1, true⟩], 154, stepPins cells f s n at0 14 acc r) := by kernel_rfl
set_option maxRecDepth 100000 in
theorem stepS1_15 (M : Mem) (f s n c : Nat) (at0 : Int) (cells : List Value) (q : Nat → AObj) (acc r : Nat → Int) (z : Nat → Value) :
   viewK liveS [24] 21 3 (evU Tryd.prog M (ovX Tryd.prog M) [81, 82] [(6, mkHook Tryd.prog M 6 (.loop loopA) 154 liveA hookA1 liveA)] [modSum 69] [54, 71] 3000 loopS ⟨mkT 154 liveS (vsS f s n c at0 20 17 17) z, hsS cells r q [some ⟨cellsI .i64 17 acc, true, 1, true⟩]⟩ [true, true, true, true, true, true, true, true, true, true, true, true, true, true, true, true, false])
   = some (.normal, vsS f s n c (IntKind.i64.wrap (at0 + 16)) 21 40 40, hsS cells r q [some ⟨cellsI .i64 17 acc, true, 1, true⟩, some ⟨cellsI .i64 40 (newS 15 acc r cells f at0), true, 1, true⟩], 154, stepPins cells f s n at0 15 acc r) := by kernel_rfl
set_option maxRecDepth 100000 in
theorem stepS1_16 (M : Mem) (f s n c : Nat) (at0 : Int) (cells : List Value) (q : Nat → AObj) (acc r : Nat → Int) (z : Nat → Value) :
   viewK liveS [24] 21 3 (evU Tryd.prog M (ovX Tryd.prog M) [81, 82] [(6, mkHook Tryd.prog M 6 (.loop loopA) 154 liveA hookA1 liveA)] [modSum 69] [54, 71] 3000 loopS ⟨mkT 154 liveS (vsS f s n c at0 20 17 17) z, hsS cells r q [some ⟨cellsI .i64 17 acc, true, 1, true⟩]⟩ [true, true, true, true, true, true, true, true, true, true, true, true, true, true, true, true, true])
   = some (.normal, vsS f s n c (IntKind.i64.wrap (at0 + 16)) 21 40 40, hsS cells r q [some ⟨cellsI .i64 17 acc, true, 1, true⟩, some ⟨cellsI .i64 40 (newS 16 acc r cells f at0), true, 1, true⟩], 154, stepPins cells f s n at0 16 acc r) := by kernel_rfl
set_option maxRecDepth 100000 in
theorem stepS2_1 (M : Mem) (f s n c : Nat) (at0 : Int) (cells : List Value) (q : Nat → AObj) (acc r : Nat → Int) (z : Nat → Value) :
   viewK liveS [25] 21 3 (evU Tryd.prog M (ovX Tryd.prog M) [81, 82] [(6, mkHook Tryd.prog M 6 (.loop loopA) 154 liveA hookA2 liveA)] [modSum 69] [54, 71] 3000 loopS ⟨mkT 154 liveS (vsS f s n c at0 21 40 40) z, hsS cells r q [ob (q 20), some ⟨cellsI .i64 40 acc, true, 1, true⟩]⟩ [true, true, false])
   = some (.normal, vsS f s n c (IntKind.i64.wrap (at0 + 16)) 21 40 40, hsS cells r q [ob (q 20), some ⟨cellsI .i64 40 (newS 1 acc r cells f at0), true, 1, true⟩], 154, stepPins cells f s n at0 1 acc r) := by kernel_rfl
set_option maxRecDepth 100000 in
theorem stepS2_2 (M : Mem) (f s n c : Nat) (at0 : Int) (cells : List Value) (q : Nat → AObj) (acc r : Nat → Int) (z : Nat → Value) :
   viewK liveS [25] 21 3 (evU Tryd.prog M (ovX Tryd.prog M) [81, 82] [(6, mkHook Tryd.prog M 6 (.loop loopA) 154 liveA hookA2 liveA)] [modSum 69] [54, 71] 3000 loopS ⟨mkT 154 liveS (vsS f s n c at0 21 40 40) z, hsS cells r q [ob (q 20), some ⟨cellsI .i64 40 acc, true, 1, true⟩]⟩ [true, true, true, false])
   = some (.normal, vsS f s n c (IntKind.i64.wrap (at0 + 16)) 21 40 40, hsS cells r q [ob (q 20), some ⟨cellsI .i64 40 (newS 2 acc r cells f at0), true, 1, true⟩], 154, stepPins cells f s n at0 2 acc r) := by kernel_rfl
set_option maxRecDepth 100000 in
theorem stepS2_3 (M : Mem) (f s n c : Nat) (at0 : Int) (cells : List Value) (q : Nat → AObj) (acc r : Nat → Int) (z : Nat → Value) :
   viewK liveS [25] 21 3 (evU Tryd.prog M (ovX Tryd.prog M) [81, 82] [(6, mkHook Tryd.prog M 6 (.loop loopA) 154 liveA hookA2 liveA)] [modSum 69] [54, 71] 3000 loopS ⟨mkT 154 liveS (vsS f s n c at0 21 40 40) z, hsS cells r q [ob (q 20), some ⟨cellsI .i64 40 acc, true, 1, true⟩]⟩ [true, true, true, true, false])
   = some (.normal, vsS f s n c (IntKind.i64.wrap (at0 + 16)) 21 40 40, hsS cells r q [ob (q 20), some ⟨cellsI .i64 40 (newS 3 acc r cells f at0), true, 1, true⟩], 154, stepPins cells f s n at0 3 acc r) := by kernel_rfl
set_option maxRecDepth 100000 in
theorem stepS2_4 (M : Mem) (f s n c : Nat) (at0 : Int) (cells : List Value) (q : Nat → AObj) (acc r : Nat → Int) (z : Nat → Value) :
   viewK liveS [25] 21 3 (evU Tryd.prog M (ovX Tryd.prog M) [81, 82] [(6, mkHook Tryd.prog M 6 (.loop loopA) 154 liveA hookA2 liveA)] [modSum 69] [54, 71] 3000 loopS ⟨mkT 154 liveS (vsS f s n c at0 21 40 40) z, hsS cells r q [ob (q 20), some ⟨cellsI .i64 40 acc, true, 1, true⟩]⟩ [true, true, true, true, true, false])
   = some (.normal, vsS f s n c (IntKind.i64.wrap (at0 + 16)) 21 40 40, hsS cells r q [ob (q 20), some ⟨cellsI .i64 40 (newS 4 acc r cells f at0), true, 1, true⟩], 154, stepPins cells f s n at0 4 acc r) := by kernel_rfl
set_option maxRecDepth 100000 in
theorem stepS2_5 (M : Mem) (f s n c : Nat) (at0 : Int) (cells : List Value) (q : Nat → AObj) (acc r : Nat → Int) (z : Nat → Value) :
   viewK liveS [25] 21 3 (evU Tryd.prog M (ovX Tryd.prog M) [81, 82] [(6, mkHook Tryd.prog M 6 (.loop loopA) 154 liveA hookA2 liveA)] [modSum 69] [54, 71] 3000 loopS ⟨mkT 154 liveS (vsS f s n c at0 21 40 40) z, hsS cells r q [ob (q 20), some ⟨cellsI .i64 40 acc, true, 1, true⟩]⟩ [true, true, true, true, true, true, false])
   = some (.normal, vsS f s n c (IntKind.i64.wrap (at0 + 16)) 21 40 40, hsS cells r q [ob (q 20), some ⟨cellsI .i64 40 (newS 5 acc r cells f at0), true, 1, true⟩], 154, stepPins cells f s n at0 5 acc r) := by kernel_rfl
set_option maxRecDepth 100000 in
theorem stepS2_6 (M : Mem) (f s n c : Nat) (at0 : Int) (cells : List Value) (q : Nat → AObj) (acc r : Nat → Int) (z : Nat → Value) :
   viewK liveS [25] 21 3 (evU Tryd.prog M (ovX Tryd.prog M) [81, 82] [(6, mkHook Tryd.prog M 6 (.loop loopA) 154 liveA hookA2 liveA)] [modSum 69] [54, 71] 3000 loopS ⟨mkT 154 liveS (vsS f s n c at0 21 40 40) z, hsS cells r q [ob (q 20), some ⟨cellsI .i64 40 acc, true, 1, true⟩]⟩ [true, true, true, true, true, true, true, false])
   = some (.normal, vsS f s n c (IntKind.i64.wrap (at0 + 16)) 21 40 40, hsS cells r q [ob (q 20), some ⟨cellsI .i64 40 (newS 6 acc r cells f at0), true, 1, true⟩], 154, stepPins cells f s n at0 6 acc r) := by kernel_rfl
set_option maxRecDepth 100000 in
theorem stepS2_7 (M : Mem) (f s n c : Nat) (at0 : Int) (cells : List Value) (q : Nat → AObj) (acc r : Nat → Int) (z : Nat → Value) :
   viewK liveS [25] 21 3 (evU Tryd.prog M (ovX Tryd.prog M) [81, 82] [(6, mkHook Tryd.prog M 6 (.loop loopA) 154 liveA hookA2 liveA)] [modSum 69] [54, 71] 3000 loopS ⟨mkT 154 liveS (vsS f s n c at0 21 40 40) z, hsS cells r q [ob (q 20), some ⟨cellsI .i64 40 acc, true, 1, true⟩]⟩ [true, true, true, true, true, true, true, true, false])
   = some (.normal, vsS f s n c (IntKind.i64.wrap (at0 + 16)) 21 40 40, hsS cells r q [ob (q 20), some ⟨cellsI .i64 40 (newS 7 acc r cells f at0), true, 1, true⟩], 154, stepPins cells f s n at0 7 acc r) := by kernel_rfl
set_option maxRecDepth 100000 in
theorem stepS2_8 (M : Mem) (f s n c : Nat) (at0 : Int) (cells : List Value) (q : Nat → AObj) (acc r : Nat → Int) (z : Nat → Value) :
   viewK liveS [25] 21 3 (evU Tryd.prog M (ovX Tryd.prog M) [81, 82] [(6, mkHook Tryd.prog M 6 (.loop loopA) 154 liveA hookA2 liveA)] [modSum 69] [54, 71] 3000 loopS ⟨mkT 154 liveS (vsS f s n c at0 21 40 40) z, hsS cells r q [ob (q 20), some ⟨cellsI .i64 40 acc, true, 1, true⟩]⟩ [true, true, true, true, true, true, true, true, true, false])
   = some (.normal, vsS f s n c (IntKind.i64.wrap (at0 + 16)) 21 40 40, hsS cells r q [ob (q 20), some ⟨cellsI .i64 40 (newS 8 acc r cells f at0), true, 1, true⟩], 154, stepPins cells f s n at0 8 acc r) := by kernel_rfl
set_option maxRecDepth 100000 in
theorem stepS2_9 (M : Mem) (f s n c : Nat) (at0 : Int) (cells : List Value) (q : Nat → AObj) (acc r : Nat → Int) (z : Nat → Value) :
   viewK liveS [25] 21 3 (evU Tryd.prog M (ovX Tryd.prog M) [81, 82] [(6, mkHook Tryd.prog M 6 (.loop loopA) 154 liveA hookA2 liveA)] [modSum 69] [54, 71] 3000 loopS ⟨mkT 154 liveS (vsS f s n c at0 21 40 40) z, hsS cells r q [ob (q 20), some ⟨cellsI .i64 40 acc, true, 1, true⟩]⟩ [true, true, true, true, true, true, true, true, true, true, false])
   = some (.normal, vsS f s n c (IntKind.i64.wrap (at0 + 16)) 21 40 40, hsS cells r q [ob (q 20), some ⟨cellsI .i64 40 (newS 9 acc r cells f at0), true, 1, true⟩], 154, stepPins cells f s n at0 9 acc r) := by kernel_rfl
set_option maxRecDepth 100000 in
theorem stepS2_10 (M : Mem) (f s n c : Nat) (at0 : Int) (cells : List Value) (q : Nat → AObj) (acc r : Nat → Int) (z : Nat → Value) :
   viewK liveS [25] 21 3 (evU Tryd.prog M (ovX Tryd.prog M) [81, 82] [(6, mkHook Tryd.prog M 6 (.loop loopA) 154 liveA hookA2 liveA)] [modSum 69] [54, 71] 3000 loopS ⟨mkT 154 liveS (vsS f s n c at0 21 40 40) z, hsS cells r q [ob (q 20), some ⟨cellsI .i64 40 acc, true, 1, true⟩]⟩ [true, true, true, true, true, true, true, true, true, true, true, false])
   = some (.normal, vsS f s n c (IntKind.i64.wrap (at0 + 16)) 21 40 40, hsS cells r q [ob (q 20), some ⟨cellsI .i64 40 (newS 10 acc r cells f at0), true, 1, true⟩], 154, stepPins cells f s n at0 10 acc r) := by kernel_rfl
set_option maxRecDepth 100000 in
theorem stepS2_11 (M : Mem) (f s n c : Nat) (at0 : Int) (cells : List Value) (q : Nat → AObj) (acc r : Nat → Int) (z : Nat → Value) :
   viewK liveS [25] 21 3 (evU Tryd.prog M (ovX Tryd.prog M) [81, 82] [(6, mkHook Tryd.prog M 6 (.loop loopA) 154 liveA hookA2 liveA)] [modSum 69] [54, 71] 3000 loopS ⟨mkT 154 liveS (vsS f s n c at0 21 40 40) z, hsS cells r q [ob (q 20), some ⟨cellsI .i64 40 acc, true, 1, true⟩]⟩ [true, true, true, true, true, true, true, true, true, true, true, true, false])
   = some (.normal, vsS f s n c (IntKind.i64.wrap (at0 + 16)) 21 40 40, hsS cells r q [ob (q 20), some ⟨cellsI .i64 40 (newS 11 acc r cells f at0), true, 1, true⟩], 154, stepPins cells f s n at0 11 acc r) := by kernel_rfl
set_option maxRecDepth 100000 in
theorem stepS2_12 (M : Mem) (f s n c : Nat) (at0 : Int) (cells : List Value) (q : Nat → AObj) (acc r : Nat → Int) (z : Nat → Value) :
   viewK liveS [25] 21 3 (evU Tryd.prog M (ovX Tryd.prog M) [81, 82] [(6, mkHook Tryd.prog M 6 (.loop loopA) 154 liveA hookA2 liveA)] [modSum 69] [54, 71] 3000 loopS ⟨mkT 154 liveS (vsS f s n c at0 21 40 40) z, hsS cells r q [ob (q 20), some ⟨cellsI .i64 40 acc, true, 1, true⟩]⟩ [true, true, true, true, true, true, true, true, true, true, true, true, true, false])
   = some (.normal, vsS f s n c (IntKind.i64.wrap (at0 + 16)) 21 40 40, hsS cells r q [ob (q 20), some ⟨cellsI .i64 40 (newS 12 acc r cells f at0), true, 1, true⟩], 154, stepPins cells f s n at0 12 acc r) := by kernel_rfl
set_option maxRecDepth 100000 in
theorem stepS2_13 (M : Mem) (f s n c : Nat) (at0 : Int) (cells : List Value) (q : Nat → AObj) (acc r : Nat → Int) (z : Nat → Value) :
   viewK liveS [25] 21 3 (evU Tryd.prog M (ovX Tryd.prog M) [81, 82] [(6, mkHook Tryd.prog M 6 (.loop loopA) 154 liveA hookA2 liveA)] [modSum 69] [54, 71] 3000 loopS ⟨mkT 154 liveS (vsS f s n c at0 21 40 40) z, hsS cells r q [ob (q 20), some ⟨cellsI .i64 40 acc, true, 1, true⟩]⟩ [true, true, true, true, true, true, true, true, true, true, true, true, true, true, false])
   = some (.normal, vsS f s n c (IntKind.i64.wrap (at0 + 16)) 21 40 40, hsS cells r q [ob (q 20), some ⟨cellsI .i64 40 (newS 13 acc r cells f at0), true, 1, true⟩], 154, stepPins cells f s n at0 13 acc r) := by kernel_rfl
set_option maxRecDepth 100000 in
theorem stepS2_14 (M : Mem) (f s n c : Nat) (at0 : Int) (cells : List Value) (q : Nat → AObj) (acc r : Nat → Int) (z : Nat → Value) :
   viewK liveS [25] 21 3 (evU Tryd.prog M (ovX Tryd.prog M) [81, 82] [(6, mkHook Tryd.prog M 6 (.loop loopA) 154 liveA hookA2 liveA)] [modSum 69] [54, 71] 3000 loopS ⟨mkT 154 liveS (vsS f s n c at0 21 40 40) z, hsS cells r q [ob (q 20), some ⟨cellsI .i64 40 acc, true, 1, true⟩]⟩ [true, true, true, true, true, true, true, true, true, true, true, true, true, true, true, false])
   = some (.normal, vsS f s n c (IntKind.i64.wrap (at0 + 16)) 21 40 40, hsS cells r q [ob (q 20), some ⟨cellsI .i64 40 (newS 14 acc r cells f at0), true, 1, true⟩], 154, stepPins cells f s n at0 14 acc r) := by kernel_rfl
set_option maxRecDepth 100000 in
theorem stepS2_15 (M : Mem) (f s n c : Nat) (at0 : Int) (cells : List Value) (q : Nat → AObj) (acc r : Nat → Int) (z : Nat → Value) :
   viewK liveS [25] 21 3 (evU Tryd.prog M (ovX Tryd.prog M) [81, 82] [(6, mkHook Tryd.prog M 6 (.loop loopA) 154 liveA hookA2 liveA)] [modSum 69] [54, 71] 3000 loopS ⟨mkT 154 liveS (vsS f s n c at0 21 40 40) z, hsS cells r q [ob (q 20), some ⟨cellsI .i64 40 acc, true, 1, true⟩]⟩ [true, true, true, true, true, true, true, true, true, true, true, true, true, true, true, true, false])
   = some (.normal, vsS f s n c (IntKind.i64.wrap (at0 + 16)) 21 40 40, hsS cells r q [ob (q 20), some ⟨cellsI .i64 40 (newS 15 acc r cells f at0), true, 1, true⟩], 154, stepPins cells f s n at0 15 acc r) := by kernel_rfl
set_option maxRecDepth 100000 in
theorem stepS2_16 (M : Mem) (f s n c : Nat) (at0 : Int) (cells : List Value) (q : Nat → AObj) (acc r : Nat → Int) (z : Nat → Value) :
   viewK liveS [25] 21 3 (evU Tryd.prog M (ovX Tryd.prog M) [81, 82] [(6, mkHook Tryd.prog M 6 (.loop loopA) 154 liveA hookA2 liveA)] [modSum 69] [54, 71] 3000 loopS ⟨mkT 154 liveS (vsS f s n c at0 21 40 40) z, hsS cells r q [ob (q 20), some ⟨cellsI .i64 40 acc, true, 1, true⟩]⟩ [true, true, true, true, true, true, true, true, true, true, true, true, true, true, true, true, true])
   = some (.normal, vsS f s n c (IntKind.i64.wrap (at0 + 16)) 21 40 40, hsS cells r q [ob (q 20), some ⟨cellsI .i64 40 (newS 16 acc r cells f at0), true, 1, true⟩], 154, stepPins cells f s n at0 16 acc r) := by kernel_rfl

end Go.Proofs.YtgnbmjhljlbkhaaDoor
