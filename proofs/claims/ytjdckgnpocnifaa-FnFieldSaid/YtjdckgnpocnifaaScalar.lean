/- The program's ScalarMult: the bytes of the least number of the ladder's product.
   Conditions: none. -/
import Derived.Test.YtjdckgnpocnifaaLadder2
open Go.Ab Go.Num
set_option linter.unusedVariables false
set_option linter.unusedSimpArgs false
namespace Go.Proofs.Ytjdckgnpocnifaa

def SL (k : Nat → Int) : List Value := (List.range 32).map fun i => .int .u8 (bif Nat.beq i 0 then bits .and .u8 (k 0) 248 else bif Nat.beq i 31 then bits .or .u8 (bits .and .u8 (k 31) 127) 64 else k i)
def PL (p : Nat → Int) : List Value := (List.range 32).map fun i => .int .u8 (bif Nat.beq i 31 then bits .and .u8 (p 31) 127 else p i)
def uE (p : Nat → Int) : Nat → Int := carE (wd (cellsI .u64 5 (limbs (val 256 (wd (PL p)) 32))))
def zeroE (i : Nat) : Int := 0
def s0E (p : Nat → Int) : E4 := ⟨wd (cellsI .u64 5 oneE), wd (cellsI .u64 5 zeroE), wd (cellsI .u64 5 (uE p)), wd (cellsI .u64 5 oneE)⟩
def finE (k p : Nat → Int) : E4 := ladE (bitS (SL k)) (wd (cellsI .u64 5 (uE p))) (s0E p) 255
def resE (k p : Nat → Int) : Nat → Int := mulE (wd (cellsI .u64 5 (finE k p).x2)) (wd (cellsI .u64 5 (powE (wd (cellsI .u64 5 (finE k p).z2)))))

def L15b : List Sum := [loadSum 23, carrySum 24, opESum 25 mulE, bytesSum 26, powSum 33]
theorem L15b_sound (M : Mem) : ∀ s ∈ L15b, s.SoundC Try.prog M := consC (loadS23 M) (consC (carry24 M) (consC (mul25 M) (consC (bytesS26 M) (consC (pow33 M) nilC))))

def smPins (k p : Nat → Int) : Pins := [(rngB (PL p), true), (leB 9223372036854775807 (cellsI .u64 5 (limbs (val 256 (wd (PL p)) 32))), true), (decide ((254 : Int) = 254), true), (rngB (SL k), true),
   (leB RB (cellsI .u64 5 (uE p)) && (leB RB (cellsI .u64 5 oneE) && (leB RB (cellsI .u64 5 zeroE) && (leB RB (cellsI .u64 5 (uE p)) && leB RB (cellsI .u64 5 oneE)))), true),
   (leB RB (cellsI .u64 5 (finE k p).z2), true), (leB RB (cellsI .u64 5 (finE k p).x2) && leB RB (cellsI .u64 5 (powE (wd (cellsI .u64 5 (finE k p).z2)))), true), (leB 9223372036854775807 (cellsI .u64 5 (resE k p)), true)]

set_option maxRecDepth 100000 in
theorem r15 (M : Mem) (k p : Nat → Int) (m : Int) : evFU Try.prog M (ovX Try.prog M) [] [(0, mkHook Try.prog M 0 (.loop loop15) 130 [2, 6, 9, 10] hook15 [2, 3, 6, 8, 9, 10, 11, 12, 13])] L15b [] 500 Try.f15 [.agg ⟨cellsI .u8 32 k⟩, .agg ⟨cellsI .u8 32 p⟩, .int .i64 m] [] []
   = some ((.tuple ⟨[.agg ⟨bytesN (val B51 (wd (cellsI .u64 5 (resE k p))) 5 % pF)⟩, .int .i64 (IntKind.i64.wrap (m + 1))]⟩, [], []), smPins k p) := by kernel_rfl

end Go.Proofs.Ytjdckgnpocnifaa
