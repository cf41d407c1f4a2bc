/- The specification's Poly1305: one round, as numbers.
   Conditions: none. -/
import Derived.Test.YtgnbmjhljlbkhaaGSpecProd
set_option linter.unusedVariables false
namespace Go.Num
open Go.Ab

def liveS : List Nat := [1, 2, 4, 5, 8, 9]
def ob (o : AObj) : Option AObj := some ⟨o.cells, o.grow, o.esz, true⟩
/-- The piece's byte k, as read. -/
def byS (cells : List Value) (f : Nat) (at0 : Int) (k : Nat) : Int := vint (atC cells (f + (IntKind.i64.wrap (at0 + k)).toNat * 1))
def sumS (m : Nat) (acc : Nat → Int) (cells : List Value) (f : Nat) (at0 : Int) (k : Nat) : Int :=
  bif Nat.blt k m then IntKind.i64.wrap (acc k + IntKind.i64.wrap (byS cells f at0 k)) else bif Nat.beq k m then IntKind.i64.wrap (acc k + 1) else bif Nat.blt k 17 then acc k else 0
def prodS (m : Nat) (acc r : Nat → Int) (cells : List Value) (f : Nat) (at0 : Int) : List Value :=
  cellsI .i64 40 (convO IntKind.i64.wrap (wd (cellsI .i64 19 (sumS m acc cells f at0))) (wd (cellsI .i64 16 r)) 16 19)
def newS (m : Nat) (acc r : Nat → Int) (cells : List Value) (f : Nat) (at0 : Int) (k : Nat) : Int := val 256 (wd (prodS m acc r cells f at0)) 40 % P130 / 256 ^ k % 256
def byPins (cells : List Value) (f s n : Nat) (at0 : Int) : Nat → Pins
  | 0 => []
  | m + 1 => byPins cells f s n at0 m ++ [(decide (IntKind.i64.wrap (at0 + m) < n), true), (inB (IntKind.i64.wrap (at0 + m)) n, true), (ldB .u8 ⟨cells, true, 1, true⟩ s (f + (IntKind.i64.wrap (at0 + m)).toNat * 1), true)]
def lastPinS (n : Nat) (at0 : Int) (m : Nat) : Pins := bif Nat.beq m 16 then [] else [(decide (IntKind.i64.wrap (at0 + m) < n), false)]
def stepPins (cells : List Value) (f s n : Nat) (at0 : Int) (m : Nat) (acc r : Nat → Int) : Pins :=
  (decide (at0 < n), true) :: byPins cells f s n at0 m ++ lastPinS n at0 m ++
    [(cellB 16 (cellsI .i64 16 r) && (cellB 19 (cellsI .i64 19 (sumS m acc cells f at0)) && zeroC 40 (cellsI .i64 40 fun _ => 0)), true),
     (digB (prodS m acc r cells f at0) 40 40, true), (decide (val 256 (wd (prodS m acc r cells f at0)) 40 < 57896044618658097711785492504343953926634992332820282019728792003956564819968), true)]

end Go.Num
