/- slices.SortFunc at the limiter's entries: the kit's contract, laid at this program.
   Conditions: none. -/
import Derived.Test.YtfkdcpinajnbfaaWalkC
import Derived.Shelf.SlSortCmp.NoneTotal
import Derived.Shelf.Lay
import Derived.Ground.SlsfProg
import Derived.Lib.RowBridge
import Derived.Lib.SortBridge
import Derived.WalkKit
namespace Go.Proofs
open Go.Shelf
shelf_lay_g SlLaysF.n6 Slsf 6 at Try 20 as Try.sortL
end Go.Proofs
#check @Go.Proofs.Try.sortL
