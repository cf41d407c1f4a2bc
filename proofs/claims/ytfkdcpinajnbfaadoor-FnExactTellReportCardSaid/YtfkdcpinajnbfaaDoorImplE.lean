/- The program's TellReport, evaluated piece by piece.
   Conditions: none. -/
import Derived.Test.YtfkdcpinajnbfaaDoorJoin
open Go.Ab Go.Num
set_option linter.unusedVariables false
set_option linter.unusedSimpArgs false
namespace Go.Proofs.YtfkdcpinajnbfaaDoor
set_option maxRecDepth 100000
noncomputable def c7 : Code := Tryd.f7.body.getD .skip
noncomputable def loop7 : Code := loopOf 0 c7
noncomputable def b7 : Code := inner (itemN loop7 2)
theorem body7 : Tryd.f7.body = some c7 := by kernel_rfl
theorem items7 : items c7 = [itemN c7 0, itemN c7 1, itemN c7 2, .block 0 (.loop loop7), itemN c7 4, itemN c7 5] := by kernel_rfl
theorem itemsL7 : items loop7 = [itemN loop7 0, itemN loop7 1, .block 1 b7, itemN loop7 3] := by kernel_rfl
theorem itemsB7 : items b7 = [itemN b7 0, itemN b7 1, itemN b7 2, itemN b7 3, itemN b7 4, itemN b7 5, itemN b7 6, itemN b7 7, itemN b7 8, itemN b7 9] := by kernel_rfl
abbrev liveM : List Nat := [3, 16, 17, 18]
abbrev live7 : List Nat := [3, 16, 17, 18, 5]
def ldT (b : Bool) : List UInt8 := bif b then [49] else [48]
/-- What a row's text is made of. -/
noncomputable def scr7 (M : Mem) (o : Ob) (B m C : Nat) (nb c1 c2 : Bool) : List Stp :=
  [.pin (i64B o.vd) true, .pin (i64B o.dh) true, .pin (i64B o.cl) true, .jn (Lib.itoa o.vd ++ [32] ++ Lib.itoa o.dh ++ [32] ++ ldT o.ld ++ [32] ++ Lib.itoa o.cl) ⟨st7 (Lib.itoa o.vd) [32] (Lib.itoa o.dh) [32] (ldT o.ld) [32] (Lib.itoa o.cl), true, 1, false⟩, .pin (decide ((m : Int) > 0)) nb] ++
  (bif nb then [.pin (srcB (srcCells o.v6 o.addr o.port)) true, .pin (hexRoB M B 0 m) true, .jn ([32] ++ srcTA (srcCells o.v6 o.addr o.port) ++ [32] ++ hexT m (roN M B 0)) ⟨st4 [32] (srcTA (srcCells o.v6 o.addr o.port)) [32] (hexT m (roN M B 0)), true, 1, false⟩] else []) ++
  [.pin (!isZ32 o.chain) c1] ++ (bif c1 then [] else [.pin (!isZ32 o.hash) c2]) ++
  (bif (c1 || c2) then [.pin (hexObB (obC o (cpS B m C)) false 1 87 23 32) true, .pin (hexObB (obC o (cpS B m C)) false 1 87 55 32) true, .jn ([32] ++ hexT 32 (fun i => wd (obC o (cpS B m C)) (23 + i)) ++ [32] ++ hexT 32 (fun i => wd (obC o (cpS B m C)) (55 + i))) ⟨st4 [32] (hexT 32 (fun i => wd (obC o (cpS B m C)) (23 + i))) [32] (hexT 32 (fun i => wd (obC o (cpS B m C)) (55 + i))), true, 1, false⟩] else []) ++
  [.ap [10]]
section
variable (M : Mem) (b n c h B m C : Nat) (k : Int) (X : List Value) (o : Ob) (z : Nat → Value) (nb c1 c2 : Bool) (dh code : Int)
def hdT (dh code : Int) : List UInt8 := Lib.itoa code ++ [32] ++ Lib.itoa dh ++ [10]
theorem e7a : viewU liveM (evL Tryd.prog M (ovN Tryd.prog M) [] [] [itoaSum, joinSum] [] 400 [itemN c7 0, itemN c7 1, itemN c7 2] ⟨[.agg ⟨repL (cpS b n c) dh code⟩] ++ List.replicate (Tryd.f7.ntmps - 1) undef, []⟩ [])
   = some (.normal, [slN 2 (hdT dh code).length, cpS b n c, .int .i64 n, .int .i64 0],
      [boxO (repL (cpS b n c) dh code), some ⟨st4 (Lib.itoa code) [32] (Lib.itoa dh) [10], true, 1, false⟩, some (txO (hdT dh code))], Tryd.f7.ntmps, [(i64B code, true), (i64B dh, true), (jB0 (Lib.itoa code) (hdT dh code), true)]) := by kernel_rfl
theorem e7s : viewU liveM (evL Tryd.prog M (ovN Tryd.prog M) [] [] [] [19] 200 [itemN loop7 0, itemN loop7 1] ⟨mkT Tryd.f7.ntmps liveM (vsL b n c h k) z, [some ⟨X, true, 1, true⟩]⟩ [true])
   = some (.normal, vsL b n c h k, [some ⟨X, true, 1, true⟩], Tryd.f7.ntmps, [(decide (k < (n : Int)), true)]) := by kernel_rfl
theorem e7x : viewU [3] (evL Tryd.prog M (ovN Tryd.prog M) [] [] [] [19] 200 (items loop7) ⟨mkT Tryd.f7.ntmps liveM (vsL b n c h k) z, [some ⟨X, true, 1, true⟩]⟩ [false])
   = some (.exit 0, [slN 0 h], [some ⟨X, true, 1, true⟩], Tryd.f7.ntmps, [(decide (k < (n : Int)), false)]) := by kernel_rfl
theorem e7l : viewU live7 (evL Tryd.prog M (ovI 45 (obC o (cpS B m C)) (fun _ => none) Tryd.prog M) [20, 21] [] [] [] 400 [itemN b7 0] ⟨mkT Tryd.f7.ntmps liveM (vsL b n c h k) z, [some ⟨X, true, 1, true⟩]⟩ [])
   = some (.normal, vsL b n c h k ++ [pt87 1], [some ⟨X, true, 1, true⟩, some ⟨obC o (cpS B m C), false, 1, false⟩], Tryd.f7.ntmps, [(inB k n, true), (rowB M b (0 + k.toNat * 87) (obC o (cpS B m C)), true)]) := by kernel_rfl
theorem e7i : viewU liveM (evL Tryd.prog M (ovN Tryd.prog M) [] [] [] [] 200 [itemN loop7 3] ⟨mkT Tryd.f7.ntmps liveM (vsL b n c h k) z, [some ⟨X, true, 1, true⟩]⟩ [])
   = some (.normal, vsL b n c h (IntKind.wrap .i64 (k + 1)), [some ⟨X, true, 1, true⟩], Tryd.f7.ntmps, []) := by kernel_rfl
theorem e7e : viewU [2] (evL Tryd.prog M (ovN Tryd.prog M) [] [] [] [] 200 [itemN c7 4, itemN c7 5] ⟨mkT Tryd.f7.ntmps [3] [slN 0 h] z, [some ⟨X, true, 1, true⟩]⟩ [])
   = some (.ret, [slN 0 h], [some ⟨X, true, 1, true⟩], Tryd.f7.ntmps, []) := by kernel_rfl
end
section
variable (M : Mem) (b n c h B m C : Nat) (k : Int) (X : List Value) (z : Nat → Value) (nb c1 c2 : Bool)
theorem e7r (o : Ob) : viewU liveM (evL Tryd.prog M (ovN Tryd.prog M) [71] [] [itoaSum, joinSum, srcoSum, hexoSum M] [40, 53, 58] 4000 [itemN b7 1, itemN b7 2, itemN b7 3, itemN b7 4, itemN b7 5, itemN b7 6, itemN b7 7, itemN b7 8, itemN b7 9]
      ⟨mkT Tryd.f7.ntmps live7 (vsL b n c h k ++ [pt87 1]) z, [some ⟨X, true, 1, true⟩, some ⟨obC o (cpS B m C), false, 1, true⟩]⟩ ([nb, c1] ++ bif c1 then [] else [c2]))
   = some (.normal, [.slice (some ⟨0, 0, some (stN (scr7 M o B m C nb c1 c2) h * 1)⟩) (stN (scr7 M o B m C nb c1 c2) h) (stN (scr7 M o B m C nb c1 c2) h), cpS b n c, .int .i64 n, .int .i64 k],
      [some ⟨stC (scr7 M o B m C nb c1 c2) X h, true, 1, true⟩, some ⟨obC o (cpS B m C), false, 1, true⟩] ++ stG (scr7 M o B m C nb c1 c2), Tryd.f7.ntmps, stP (scr7 M o B m C nb c1 c2) X h h) := by
  obtain ⟨vd, dh, ld, v6, addr, port, cl, chain, hash⟩ := o
  cases nb <;> cases c1 <;> cases c2 <;> cases ld <;> kernel_rfl
end
end Go.Proofs.YtfkdcpinajnbfaaDoor
