/- The specification's folding modulo 2^130 - 5: evaluated.
   Conditions: the digits are in bounds. -/
import Derived.Test.YtgnbmjhljlbkhaaDoorSCarry
open Go.Ab Go.Num
set_option linter.unusedVariables false
set_option linter.unusedSimpArgs false
namespace Go.Proofs.YtgnbmjhljlbkhaaDoor

def hiR (x : Nat → Int) (j : Nat) : Int := IntKind.i64.wrap (IntKind.i64.wrap ((x (16 + j)).tdiv 4) + IntKind.i64.wrap ((bif Nat.blt (17 + j) 40 then (x (17 + j)).tmod 4 else 0) * 64))
def lowR (x : Nat → Int) : List Value := (List.range 24).map fun k => .int .i64 (bif Nat.blt k 17 then IntKind.i64.wrap ((bif Nat.beq k 16 then (x 16).tmod 4 else x k) + IntKind.i64.wrap (5 * hiR x k)) else IntKind.i64.wrap (5 * hiR x k))
def m1 (x : Nat → Int) : Nat → Int := dig 256 (ext (wd (lowR x)) 24)
def offR (x : Nat → Int) : List Value := (List.range 40).map fun k => .int .i64 (bif Nat.beq k 0 then IntKind.i64.wrap (x 0 + 5) else x k)
def o1 (x : Nat → Int) : Nat → Int := dig 256 (ext (wd (offR x)) 40)
def d0 (cells : List Value) : Nat → Int := dig 256 (ext (wd cells) 40)
def d4 (cells : List Value) : Nat → Int := m1 (m1 (m1 (m1 (d0 cells))))
def lessR4 (x : Nat → Int) : List Value := (List.range 40).map fun k => .int .i64 (bif Nat.beq k 16 then IntKind.i64.wrap (x 16 - 4) else x k)

def modPins (cells : List Value) (s : Nat) : Pins :=
  [(digB cells s 40, true), (digB (lowR (d0 cells)) 24 24, true), (digB (lowR (m1 (d0 cells))) 24 24, true), (digB (lowR (m1 (m1 (d0 cells)))) 24 24, true), (digB (lowR (m1 (m1 (m1 (d0 cells))))) 24 24, true), (digB (offR (d4 cells)) 40 40, true)]

set_option maxRecDepth 100000 in
theorem rModF (M : Mem) (s c e : Nat) (g : Bool) (cells : List Value) : evFC Tryd.prog M [carry8Sum 70] [97] 3000 Tryd.f69 [.slice (some ⟨0, 0, some s⟩) 40 c] [⟨cells, g, e, true⟩] [false]
   = some ((.slice (some ⟨1, 0, some 40⟩) 17 40, [⟨cells, g, e, true⟩], [⟨cellsI .i64 40 (d4 cells), true, 1, true⟩]), modPins cells s ++ [(decide (o1 (d4 cells) 16 ≥ 4), false)]) := by kernel_rfl
set_option maxRecDepth 100000 in
theorem rModT (M : Mem) (s c e : Nat) (g : Bool) (cells : List Value) : evFC Tryd.prog M [carry8Sum 70] [97] 3000 Tryd.f69 [.slice (some ⟨0, 0, some s⟩) 40 c] [⟨cells, g, e, true⟩] [true]
   = some ((.slice (some ⟨1, 0, some 40⟩) 17 40, [⟨cells, g, e, true⟩], [⟨lessR4 (o1 (d4 cells)), true, 1, true⟩]), modPins cells s ++ [(decide (o1 (d4 cells) 16 ≥ 4), true)]) := by kernel_rfl

end Go.Proofs.YtgnbmjhljlbkhaaDoor
