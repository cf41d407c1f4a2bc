/- Facts on this program that all proofs of this seat use.
   Conditions: none. -/
import Derived.Test.YtjdckgnpocnifaaAbC
import Derived.Test.YtjdckgnpocnifaaRows
import Derived.WalkKit
import Derived.ProofKit
open Go.Ab
namespace Go.Proofs.Ytjdckgnpocnifaa

theorem own : ownKnob Try.prog.godebug = none := by kernel_rfl
theorem mix : Try.prog.follows .mixedOrders = true := by kernel_rfl

end Go.Proofs.Ytjdckgnpocnifaa
