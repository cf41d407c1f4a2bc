/- Facts on this program that all proofs of this seat use: the arrays' comparing loops answer as the lists of bytes do.
   Conditions: none. -/
import Derived.Test.YthflpgckojnbmaaAbB
import Derived.Test.YthflpgckojnbmaaRows
import Derived.WalkKit
import Derived.ProofKit
open Go.Ab
namespace Go.Proofs.Ythflpgckojnbmaa

theorem own : ownKnob Try.prog.godebug = none := by kernel_rfl
theorem mix : Try.prog.follows .mixedOrders = true := by kernel_rfl

set_option maxRecDepth 100000 in
theorem eq9 (M : Mem) : (eqSum 18 9).Sound Try.prog M := eqSum_sound mix Try.func18 (by kernel_rfl) (by kernel_rfl) (sym := [16]) (fuel := 1000) (fun x y => by kernel_rfl)
set_option maxRecDepth 100000 in
theorem eq12 (M : Mem) : (eqSum 21 12).Sound Try.prog M := eqSum_sound mix Try.func21 (by kernel_rfl) (by kernel_rfl) (sym := [16]) (fuel := 1000) (fun x y => by kernel_rfl)
set_option maxRecDepth 100000 in
theorem eq64 (M : Mem) : (eqSum 36 64).Sound Try.prog M := eqSum_sound mix Try.func36 (by kernel_rfl) (by kernel_rfl) (sym := [16]) (fuel := 1000) (fun x y => by kernel_rfl)
set_option maxRecDepth 100000 in
theorem eq148 (M : Mem) : (eqSum 40 148).Sound Try.prog M := eqSum_sound mix Try.func40 (by kernel_rfl) (by kernel_rfl) (sym := [16]) (fuel := 1000) (fun x y => by kernel_rfl)

end Go.Proofs.Ythflpgckojnbmaa
