/- The law FnSealing returns true of whatever bytes the draws come from, which read behind the call as before.
   Conditions: the variable chaWords is as the program's text lays it; the card ties it to that text. -/
import Derived.Test.YtgnbmjhljlbkhaaDoorSealing
open Go.Ab Go.Num
set_option linter.unusedVariables false
set_option linter.unusedSimpArgs false
namespace Go.Proofs.YtgnbmjhljlbkhaaDoor

section
variable (M : Mem) (u : Option (Nat × Nat)) (n c : Nat) (sz : Int)
noncomputable def sA : (Nat → Int) × (Int × Int) := arrR Tryd.prog M 33 32 u n c false 1 (seedC (lenS u n))
noncomputable def sB : (Nat → Int) × (Int × Int) := arrR Tryd.prog M 34 24 u n c false 1 (sA M u n c).2
noncomputable def sC : Int × (Int × Int) := lenR Tryd.prog M 36 u n c false 1 (sB M u n c).2 sz
noncomputable def sK : Int := IntKind.i64.wrap (1 + (sC M u n c sz).1)
noncomputable def sD : (Nat → Int) × (Int × Int) := bytR Tryd.prog M 35 u n c false 1 (sC M u n c sz).2 (sK M u n c sz)
noncomputable def sE : Int × (Int × Int) := lenR Tryd.prog M 36 u n c false 1 (sD M u n c sz).2 60
noncomputable def sF : (Nat → Int) × (Int × Int) := bytR Tryd.prog M 35 u n c false 1 (sE M u n c sz).2 (sE M u n c sz).1
end
/-- What is drawn, and the pins that follow: of a key, a nonce, a text of N bytes and an extra of m. -/
def shF (nn : Nat → Int) (i : Nat) : Int := bif Nat.blt i 4 then 0 else nn (12 + i)
def pinsS (k nn x y : Nat → Int) (N m : Nat) : Pins :=
  let K := cellsI .u8 32 k
  let W := cellsI .u8 24 nn
  let X := cellsI .u8 N x
  let Y := cellsI .u8 m y
  let B := cellsI .u8 (N + 16) (boxF (xK K W) (xN W) (cpY N X) 0 N (cpY m Y) 0 m)
  let B4 := cellsI .u8 (N + 16) (boxF (keyF (wd K) (wd (cellsI .u8 16 nn))) (cellsI .u8 12 (shF nn)) (cpY N X) 0 N (cpY m Y) 0 m)
  let T := textV (xK K W) (xN W) (cpY (N + 16) B) 0 (N + 16) 16
  [(copyB X N 0 N N, true), (copyB Y m 0 m m, true), (rngB K, true), (rngB W, true), (dataB (cpY N X) N 0 N N && Nat.ble N 65536, true), (dataB (cpY m Y) m 0 m m && Nat.ble m 65536, true),
   (copyB B (N + 16) 0 (N + 16) (N + 16), true), (copyB Y m 0 m m, true), (rngB K, true), (rngB W, true), (dataB (cpY (N + 16) B) (N + 16) 0 (N + 16) (N + 16) && (Nat.ble 16 (N + 16) && Nat.ble (N + 16) 65552), true), (dataB (cpY m Y) m 0 m m && Nat.ble m 65536, true),
   (tagB (xK K W) (xN W) (cpY (N + 16) B) 0 (N + 16) (cpY m Y) 0 m, true), cvY T (N + 16 - 16) (N + 16 - 16 + 16), cvY X N N, (!((strB (sl0 T (N + 16 - 16))).toList == (strB (sl0 X N)).toList), false),
   (((N + 16 : Nat) : Int) != IntKind.i64.wrap ((N : Int) + 16), false), (rngB K, true), (rngB (cellsI .u8 16 nn), true), (copyB X N 0 N N, true), (copyB Y m 0 m m, true),
   (rngB (keyF (wd K) (wd (cellsI .u8 16 nn))), true), (rngB (cellsI .u8 12 (shF nn)), true), (dataB (cpY N X) N 0 N N && Nat.ble N 65536, true), (dataB (cpY m Y) m 0 m m && Nat.ble m 65536, true),
   cvY B4 (N + 16) (N + 16), cvY B (N + 16) (N + 16), (!((strB (sl0 B4 (N + 16))).toList == (strB (sl0 B (N + 16))).toList), false)]
noncomputable def hks (W : World) : Hooks := [(4, mkHook Tryd.prog (memL tblCha W) 4 (.loop loop4) 192 liveX hookX liveX), (6, mkHook Tryd.prog (memL tblCha W) 6 (.loop loop6) 192 liveY (hookY (memL tblCha W)) liveY)]
noncomputable def pinsD (M : Mem) (u : Option (Nat × Nat)) (n c : Nat) (sz : Int) : Pins :=
  [(decide ((lenS u n : Int) > 1048576), false), (srcOk M (srcA u) (lenS u n) 0, true), (srcOk M (srcA u) (lenS u n) (sA M u n c).2.2, true), (srcOk M (srcA u) (lenS u n) (sB M u n c).2.2, true), (decide (0 ≤ sz ∧ sz ≤ 300), true),
   (srcOk M (srcA u) (lenS u n) (sC M u n c sz).2.2, true), (decide (0 ≤ sK M u n c sz ∧ sK M u n c sz ≤ 1048576), true), (srcOk M (srcA u) (lenS u n) (sD M u n c sz).2.2, true), (true, true),
   (srcOk M (srcA u) (lenS u n) (sE M u n c sz).2.2, true), (decide (0 ≤ (sE M u n c sz).1 ∧ (sE M u n c sz).1 ≤ 1048576), true)]
noncomputable def pinsL (M : Mem) (u : Option (Nat × Nat)) (n c : Nat) (sz : Int) (k nn x y : Nat → Int) (N m : Nat) : Pins :=
  let K := cellsI .u8 32 k
  let W := cellsI .u8 24 nn
  let X := cellsI .u8 N x
  let Y := cellsI .u8 m y
  let B := cellsI .u8 (N + 16) (boxF (xK K W) (xN W) (cpY N X) 0 N (cpY m Y) 0 m)
  let S := keyF (wd K) (wd (cellsI .u8 16 nn))
  [(@decide (XOk N N N m m m (N + 16) (N + 16) (N + 16) (N : Int) (srcC u n c (sF M u n c sz).2.2 (sF M u n c sz).2.1) X B S (cellsI .u8 12 (shF nn))) (Classical.propDecidable _), true),
   (@decide (YOk m m m (N + 16) (N + 16) (N + 16) (srcA u) (lenS u n) c (sF M u n c sz).2.2 M Y B (cellsI .u8 32 (wd S)) (cellsI .u8 12 (wd (cellsI .u8 12 (shF nn))))) (Classical.propDecidable _), true)]
noncomputable def pins9 (M : Mem) (u : Option (Nat × Nat)) (n c : Nat) (sz : Int) : Pins :=
  pinsD M u n c sz ++ pinsS (sA M u n c).1 (sB M u n c).1 (sD M u n c sz).1 (sF M u n c sz).1 (sK M u n c sz).toNat (sE M u n c sz).1.toNat ++ pinsL M u n c sz (sA M u n c).1 (sB M u n c).1 (sD M u n c sz).1 (sF M u n c sz).1 (sK M u n c sz).toNat (sE M u n c sz).1.toNat
set_option maxRecDepth 100000 in
theorem r9s (W : World) (b off n c : Nat) : evFU Tryd.prog (memL tblCha W) (ovE Tryd.prog (memL tblCha W)) [66, 68, 112, 114] (hks W) (LS W) [27, 69, 77, 115] 1000 Tryd.f9 [.slice (some ⟨b, off, none⟩) n c] [] [false, false, false, false]
   = some ((.bool true, [], []), pins9 (memL tblCha W) (some (b, off)) n c (szV n)) := parts_eq (by kernel_rfl) (by kernel_rfl) (by kernel_rfl) (by kernel_rfl) (by kernel_rfl)
set_option maxRecDepth 100000 in
theorem r9z (W : World) : evFU Tryd.prog (memL tblCha W) (ovE Tryd.prog (memL tblCha W)) [66, 68, 112, 114] (hks W) (LS W) [27, 69, 77, 115] 1000 Tryd.f9 [.slice none 0 0] [] [false, false, false, false]
   = some ((.bool true, [], []), pins9 (memL tblCha W) none 0 0 2) := parts_eq (by kernel_rfl) (by kernel_rfl) (by kernel_rfl) (by kernel_rfl) (by kernel_rfl)
set_option maxRecDepth 100000 in
theorem r9l (W : World) (b off n c : Nat) : evFU Tryd.prog (memL tblCha W) (ovE Tryd.prog (memL tblCha W)) [66, 68, 112, 114] (hks W) (LS W) [27, 69, 77, 115] 1000 Tryd.f9 [.slice (some ⟨b, off, none⟩) n c] [] [true]
   = some ((.bool true, [], []), [(decide ((n : Int) > 1048576), true)]) := by kernel_rfl
end Go.Proofs.YtgnbmjhljlbkhaaDoor
