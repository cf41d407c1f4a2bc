/- Facts on this program that all proofs of this seat use.
   Conditions: none. -/
import Derived.Test.YtgnbmjhljlbkhaaDoorAbC
import Derived.Test.YtgnbmjhljlbkhaaDoorRows
import Derived.WalkKit
import Derived.ProofKit
open Go.Ab
namespace Go.Proofs.YtgnbmjhljlbkhaaDoor

theorem own : ownKnob Tryd.prog.godebug = none := by kernel_rfl
theorem mix : Tryd.prog.follows .mixedOrders = true := by kernel_rfl

end Go.Proofs.YtgnbmjhljlbkhaaDoor
