/- Facts on this program that all proofs of this seat use.
   Conditions: none. -/
import Derived.Test.YtfkdcpinajnbfaaAbD
import Derived.Test.YtfkdcpinajnbfaaRows
import Derived.WalkKit
import Derived.ProofKit
open Go.Ab
namespace Go.Proofs.Ytfkdcpinajnbfaa

theorem own : ownKnob Try.prog.godebug = none := by kernel_rfl
theorem mix : Try.prog.follows .mixedOrders = true := by kernel_rfl

end Go.Proofs.Ytfkdcpinajnbfaa
