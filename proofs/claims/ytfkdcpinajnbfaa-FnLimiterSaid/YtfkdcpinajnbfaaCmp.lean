/- The closure by which the limiter's entries are sorted: it compares their numbers.
   Conditions: none. -/
import Derived.Test.YtfkdcpinajnbfaaSortL
import Derived.Shelf.SlicesG.Cmp
import Derived.Ground.SlgcProg
import Derived.Deep.QuietTactic
import Derived.BigQuiet
set_option linter.unusedVariables false
namespace Go.Proofs
open Go.Shelf
shelf_lay_g SlLaysC2.n5 Slgc 5 at Try 22 as Try.cmpL
end Go.Proofs

namespace Go.Proofs.Ytfkdcpinajnbfaa
open Go.Shelf Go.RowKit Go.Lib Go.Sort

set_option maxHeartbeats 1000000 in
theorem closure21 (p q : Nat) (x y : Int) (W : World) (hx : W.cell? ⟨p, 11, none⟩ = some (.int .i64 x)) (hy : W.cell? ⟨q, 11, none⟩ = some (.int .i64 y)) :
    Calls Try.prog 21 #[.pointer (some ⟨p, 0, none⟩), .pointer (some ⟨q, 0, none⟩)] W fun e w' => e = .returned (.int .i64 (Lib.compareInt x y)) ∧ ∃ n, w' = W.drewN n := by
  have hcon := fun W => AnyG.cmp_Compare_int Try.cmpL x y W
  have hcon : ∀ W, Calls Try.prog 22 #[.int .i64 x, .int .i64 y] W fun e w' => e = .returned (.int .i64 (Lib.compareInt x y)) ∧ w' = W := hcon
  generalize Lib.compareInt x y = r at hcon ⊢
  go_enter Try.func21, Try.ntmps21
  go_wp2
  go_quiet ((go_at_call 22; exact Calls.quiet_of_same (hcon _)))
  go_wp2
  go_ret
  exact ⟨rfl, _, rfl⟩
end Go.Proofs.Ytfkdcpinajnbfaa
