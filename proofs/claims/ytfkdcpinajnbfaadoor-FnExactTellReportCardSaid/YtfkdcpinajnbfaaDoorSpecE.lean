/- The reference's TellReport, evaluated piece by piece.
   Conditions: none. -/
import Derived.Test.YtfkdcpinajnbfaaDoorScr
open Go.Ab Go.Num
set_option linter.unusedVariables false
set_option linter.unusedSimpArgs false
namespace Go.Proofs.YtfkdcpinajnbfaaDoor
set_option maxRecDepth 100000
noncomputable def c5 : Code := Tryd.f5.body.getD .skip
noncomputable def loop5 : Code := loopOf 0 c5
noncomputable def b5 : Code := inner (itemN loop5 2)
theorem body5 : Tryd.f5.body = some c5 := by kernel_rfl
theorem items5 : items c5 = [itemN c5 0, itemN c5 1, itemN c5 2, itemN c5 3, itemN c5 4, .block 0 (.loop loop5), itemN c5 6, itemN c5 7] := by kernel_rfl
theorem itemsL5 : items loop5 = [itemN loop5 0, itemN loop5 1, .block 1 b5, itemN loop5 3] := by kernel_rfl
theorem itemsB5 : items b5 = [itemN b5 0, itemN b5 1, itemN b5 2, itemN b5 3, itemN b5 4, itemN b5 5, itemN b5 6, itemN b5 7, itemN b5 8, itemN b5 9, itemN b5 10, itemN b5 11] := by kernel_rfl
abbrev liveL : List Nat := [3, 20, 21, 22]
abbrev live5 : List Nat := [3, 20, 21, 22, 5]
abbrev vsL (b n c h : Nat) (k : Int) : List Value := [slN 0 h, .slice (some ⟨b, 0, none⟩) n c, .int .i64 n, .int .i64 k]
abbrev pt87 (i : Nat) : Value := .pointer (some ⟨i, 0, some 87⟩)
abbrev cpS (B m C : Nat) : Value := .slice (some ⟨B, 0, none⟩) m C
/-- What a row's text is made of. -/
noncomputable def scr5 (M : Mem) (o : Ob) (B m C : Nat) (nb c1 c2 : Bool) : List Stp :=
  [.pin (i64B o.vd) true, .ap (Lib.itoa o.vd), .ap [32], .pin (i64B o.dh) true, .ap (Lib.itoa o.dh), bif o.ld then .aps [32, 49, 32] else .aps [32, 48, 32], .pin (i64B o.cl) true, .ap (Lib.itoa o.cl), .pin (decide ((m : Int) > 0)) nb] ++
  (bif nb then [.ap [32], .pin (srcB (srcCells o.v6 o.addr o.port)) true, .ap (srcTA (srcCells o.v6 o.addr o.port)), .ap [32], .pin (hexRoB M B 0 m) true, .ap (hexT m (roN M B 0))] else []) ++
  [.pin (!isZ32 o.chain) c1] ++ (bif c1 then [] else [.pin (!isZ32 o.hash) c2]) ++
  (bif (c1 || c2) then [.ap [32], .pin (hexObB (obC o (cpS B m C)) false 1 87 23 32) true, .ap (hexT 32 (fun i => wd (obC o (cpS B m C)) (23 + i))), .ap [32], .pin (hexObB (obC o (cpS B m C)) false 1 87 55 32) true, .ap (hexT 32 (fun i => wd (obC o (cpS B m C)) (55 + i)))] else []) ++
  [.ap [10]]
section
variable (M : Mem) (b n c h B m C : Nat) (k : Int) (X : List Value) (o : Ob) (z : Nat → Value) (nb c1 c2 : Bool) (dh code : Int)
def scr0 (dh code : Int) : List Stp := [.ap [32], .pin (i64B dh) true, .ap (Lib.itoa dh), .ap [10]]
theorem e5a : viewU liveL (evL Tryd.prog M (ovN Tryd.prog M) [10, 15, 18] [] [decSum] [] 400 [itemN c5 0, itemN c5 1, itemN c5 2, itemN c5 3, itemN c5 4] ⟨[.agg ⟨repL (cpS b n c) dh code⟩] ++ List.replicate (Tryd.f5.ntmps - 1) undef, []⟩ [])
   = some (.normal, [.slice (some ⟨1, 0, some (stN (scr0 dh code) (Lib.itoa code).length * 1)⟩) (stN (scr0 dh code) (Lib.itoa code).length) (stN (scr0 dh code) (Lib.itoa code).length), cpS b n c, .int .i64 n, .int .i64 0],
      [boxO (repL (cpS b n c) dh code), some ⟨stC (scr0 dh code) (tx (Lib.itoa code)) (Lib.itoa code).length, true, 1, true⟩] ++ stG (scr0 dh code), Tryd.f5.ntmps, (i64B code, true) :: stP (scr0 dh code) (tx (Lib.itoa code)) (Lib.itoa code).length (Lib.itoa code).length) := by kernel_rfl
theorem e5s : viewU liveL (evL Tryd.prog M (ovN Tryd.prog M) [] [] [] [23] 200 [itemN loop5 0, itemN loop5 1] ⟨mkT Tryd.f5.ntmps liveL (vsL b n c h k) z, [some ⟨X, true, 1, true⟩]⟩ [true])
   = some (.normal, vsL b n c h k, [some ⟨X, true, 1, true⟩], Tryd.f5.ntmps, [(decide (k < (n : Int)), true)]) := by kernel_rfl
theorem e5x : viewU [3] (evL Tryd.prog M (ovN Tryd.prog M) [] [] [] [23] 200 (items loop5) ⟨mkT Tryd.f5.ntmps liveL (vsL b n c h k) z, [some ⟨X, true, 1, true⟩]⟩ [false])
   = some (.exit 0, [slN 0 h], [some ⟨X, true, 1, true⟩], Tryd.f5.ntmps, [(decide (k < (n : Int)), false)]) := by kernel_rfl
theorem e5l : viewU live5 (evL Tryd.prog M (ovI 45 (obC o (cpS B m C)) (fun _ => none) Tryd.prog M) [24, 25] [] [] [] 400 [itemN b5 0] ⟨mkT Tryd.f5.ntmps liveL (vsL b n c h k) z, [some ⟨X, true, 1, true⟩]⟩ [])
   = some (.normal, vsL b n c h k ++ [pt87 1], [some ⟨X, true, 1, true⟩, some ⟨obC o (cpS B m C), false, 1, false⟩], Tryd.f5.ntmps, [(inB k n, true), (rowB M b (0 + k.toNat * 87) (obC o (cpS B m C)), true)]) := by kernel_rfl
theorem e5i : viewU liveL (evL Tryd.prog M (ovN Tryd.prog M) [] [] [] [] 200 [itemN loop5 3] ⟨mkT Tryd.f5.ntmps liveL (vsL b n c h k) z, [some ⟨X, true, 1, true⟩]⟩ [])
   = some (.normal, vsL b n c h (IntKind.wrap .i64 (k + 1)), [some ⟨X, true, 1, true⟩], Tryd.f5.ntmps, []) := by kernel_rfl
theorem e5e : viewU [2] (evL Tryd.prog M (ovN Tryd.prog M) [] [] [] [] 200 [itemN c5 6, itemN c5 7] ⟨mkT Tryd.f5.ntmps [3] [slN 0 h] z, [some ⟨X, true, 1, true⟩]⟩ [])
   = some (.ret, [slN 0 h], [some ⟨X, true, 1, true⟩], Tryd.f5.ntmps, []) := by kernel_rfl
end
section
variable (M : Mem) (b n c h B m C : Nat) (k : Int) (X : List Value) (z : Nat → Value) (nb c1 c2 : Bool)
theorem e5r (o : Ob) : viewU liveL (evL Tryd.prog M (ovN Tryd.prog M) [30, 33, 38, 42, 44, 49, 56, 61, 64, 69, 82, 87, 90, 95, 98] [] [decSum, tellSum, hexSum M] [53, 73, 78] 4000 [itemN b5 1, itemN b5 2, itemN b5 3, itemN b5 4, itemN b5 5, itemN b5 6, itemN b5 7, itemN b5 8, itemN b5 9, itemN b5 10, itemN b5 11]
      ⟨mkT Tryd.f5.ntmps live5 (vsL b n c h k ++ [pt87 1]) z, [some ⟨X, true, 1, true⟩, some ⟨obC o (cpS B m C), false, 1, true⟩]⟩ ([nb, c1] ++ bif c1 then [] else [c2]))
   = some (.normal, [.slice (some ⟨0, 0, some (stN (scr5 M o B m C nb c1 c2) h * 1)⟩) (stN (scr5 M o B m C nb c1 c2) h) (stN (scr5 M o B m C nb c1 c2) h), cpS b n c, .int .i64 n, .int .i64 k],
      [some ⟨stC (scr5 M o B m C nb c1 c2) X h, true, 1, true⟩, some ⟨obC o (cpS B m C), false, 1, true⟩] ++ stG (scr5 M o B m C nb c1 c2), Tryd.f5.ntmps, stP (scr5 M o B m C nb c1 c2) X h h) := by
  obtain ⟨vd, dh, ld, v6, addr, port, cl, chain, hash⟩ := o
  cases nb <;> cases c1 <;> cases c2 <;> cases ld <;> kernel_rfl
end
end Go.Proofs.YtfkdcpinajnbfaaDoor
