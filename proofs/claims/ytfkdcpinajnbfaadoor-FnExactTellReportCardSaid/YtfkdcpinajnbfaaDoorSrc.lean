/- The program's text of a source (sourceText); the texts that a call appends one behind the other (join).
   Conditions: numbers in range. -/
import Derived.Test.YtfkdcpinajnbfaaDoorHexO
import Derived.Test.YtfkdcpinajnbfaaDoorItoa
open Go.Ab Go.Num
set_option linter.unusedVariables false
set_option linter.unusedSimpArgs false
namespace Go.Proofs.YtfkdcpinajnbfaaDoor
set_option maxRecDepth 100000
noncomputable def I27 (M : Mem) : Sum := inl Tryd.prog M (fns []) 1000 27 Tryd.f27
theorem I27s (M : Mem) : (I27 M).Sound Tryd.prog M := inl_sound (fns_sound (fun s hs => by cases hs)) mix Tryd.func27 (by kernel_rfl) (by kernel_rfl)
def adB (a b : List UInt8) : Bool := decide (a.length + b.length ≤ 9223372036854775807)
def kdT (v6 : Bool) : List UInt8 := [bif v6 then 54 else 52, 58]
theorem e20 (M : Mem) (v6 : Bool) (addr : Nat → Int) (port : Int) (H I : List UInt8) (hH : hexT (srcN4 v6) (srcX v6 addr port) = H) (hI : Lib.itoa (IntKind.i64.wrap port) = I) :
   evFU Tryd.prog M (ovN Tryd.prog M) [10, 11, 16] [] [(I27 M), hexoSum M, itoaSum] [] 400 Tryd.f20 [.agg ⟨srcCells v6 addr port⟩] [] []
   = some ((strOf (kdT v6 ++ H ++ [58] ++ I), [], []), [(hexObB (srcCells v6 addr port) false 1 18 1 (srcN4 v6), true), (adB (kdT v6) H, true), (adB (kdT v6 ++ H) [58], true), (i64B (IntKind.i64.wrap port), true), (adB (kdT v6 ++ H ++ [58]) I, true)]) := by subst hH hI; cases v6 <;> kernel_rfl
end Go.Proofs.YtfkdcpinajnbfaaDoor
