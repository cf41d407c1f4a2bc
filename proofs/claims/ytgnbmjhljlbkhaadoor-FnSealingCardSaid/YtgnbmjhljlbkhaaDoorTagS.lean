/- spec.l2Tag: evaluated.
   Conditions: bytes in range. -/
import Derived.Test.YtgnbmjhljlbkhaaDoorTo32
import Derived.Test.YtgnbmjhljlbkhaaDoorSFn
open Go.Ab Go.Num
set_option linter.unusedVariables false
set_option linter.unusedSimpArgs false
namespace Go.Proofs.YtgnbmjhljlbkhaaDoor

def padC (X : List Value) (f n : Nat) : List Value := cellsI .u8 (padN n) (ext (datF X f) n)
def joinC (a b : Nat) (X Y : List Value) : List Value := cellsI .u8 (a + b) (catF a (wd X) (wd Y))
def app8 (J : List Value) (l : Nat) (x : Int) : List Value := J.take (l * 1) ++ ((cellsI .u8 8 (eE x)).drop 0).take (8 * 1)
def tagD (X : List Value) (f1 n : Nat) (Y : List Value) (f2 m : Nat) : List Value :=
  app8 (app8 (joinC (padN m) (padN n) (padC Y f2 m) (padC X f1 n)) (padN m + padN n) m) (padN m + padN n + 8) n
def blk0 (k nn : Nat → Int) : List Value := blockF (wd (cellsI .u8 32 k)) 0 (wd (cellsI .u8 12 nn))
def ap8B (J : List Value) (s l : Nat) : Bool := decide (l = l) && (decide (s = l * 1) && (decide (J.length = s) && (room (l + 8) 1 && true)))

set_option maxRecDepth 100000 in
theorem r50 (M : Mem) (k nn : Nat → Int) (f1 s1 n c f2 s2 m d : Nat) (X Y : List Value) : evFU Tryd.prog M (ovX Tryd.prog M) [23, 28] [] [chaSum 10, fillSum 61, joinSum 60, eightSum 62, to32Sum 48, polySum 63] [] 300 Tryd.f50 [.agg ⟨cellsI .u8 32 k⟩, .agg ⟨cellsI .u8 12 nn⟩, .slice (some ⟨0, f1, some s1⟩) n c, .slice (some ⟨1, f2, some s2⟩) m d] [⟨X, true, 1, true⟩, ⟨Y, true, 1, true⟩] []
   = some ((.agg ⟨tagF (wd (cellsI .u8 32 (wd (blk0 k nn)))) (tagD X f1 n Y f2 m) 0 (padN m + padN n + 8 + 8)⟩, [⟨X, true, 1, true⟩, ⟨Y, true, 1, true⟩], []),
     [(rngB (cellsI .u8 32 k), true), (rngB (cellsI .u8 12 nn), true), (dataB Y s2 f2 m d && Nat.ble m 1048576, true), (dataB X s1 f1 n c && Nat.ble n 1048576, true),
      (decide (padN m = padN m ∧ padN n = padN n) && (wholeB (padN m) (padC Y f2 m) && wholeB (padN n) (padC X f1 n)), true),
      (ap8B (joinC (padN m) (padN n) (padC Y f2 m) (padC X f1 n)) (padN m + padN n) (padN m + padN n), true),
      (ap8B (app8 (joinC (padN m) (padN n) (padC Y f2 m) (padC X f1 n)) (padN m + padN n) m) ((padN m + padN n + 8) * 1) (padN m + padN n + 8), true),
      (blkB (blk0 k nn), true), (rngB (cellsI .u8 32 (wd (blk0 k nn))), true), (dataB (tagD X f1 n Y f2 m) ((padN m + padN n + 8 + 8) * 1) 0 (padN m + padN n + 8 + 8) (padN m + padN n + 8 + 8), true)]) := by kernel_rfl

end Go.Proofs.YtgnbmjhljlbkhaaDoor
