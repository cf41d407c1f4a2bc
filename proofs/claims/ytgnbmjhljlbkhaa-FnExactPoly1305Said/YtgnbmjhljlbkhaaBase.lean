/- Facts on this program that all proofs of this seat use.
   Conditions: none. -/
import Derived.Test.YtgnbmjhljlbkhaaAbC
import Derived.Test.YtgnbmjhljlbkhaaRows
import Derived.WalkKit
import Derived.ProofKit
open Go.Ab
namespace Go.Proofs.Ytgnbmjhljlbkhaa

theorem own : ownKnob Try.prog.godebug = none := by kernel_rfl
theorem mix : Try.prog.follows .mixedOrders = true := by kernel_rfl

end Go.Proofs.Ytgnbmjhljlbkhaa
