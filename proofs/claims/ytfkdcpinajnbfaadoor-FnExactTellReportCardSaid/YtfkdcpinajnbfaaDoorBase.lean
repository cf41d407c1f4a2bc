/- Facts on this program that all proofs of this seat use.
   Conditions: none. -/
import Derived.Test.YtfkdcpinajnbfaaDoorAbD
import Derived.Test.YtfkdcpinajnbfaaDoorRows
import Derived.WalkKit
import Derived.ProofKit
open Go.Ab
namespace Go.Proofs.YtfkdcpinajnbfaaDoor

theorem own : ownKnob Tryd.prog.godebug = none := by kernel_rfl
theorem mix : Tryd.prog.follows .mixedOrders = true := by kernel_rfl

end Go.Proofs.YtfkdcpinajnbfaaDoor
