/- Limiters copied out of the arguments' memory, and measured.
   Conditions: the memory reads as buckets. -/
import Derived.Test.YtfkdcpinajnbfaaMark2
open Go.Ab
set_option linter.unusedVariables false
set_option linter.unusedSimpArgs false
namespace Go.Proofs.Ytfkdcpinajnbfaa
set_option maxRecDepth 100000

def shTM : Nat → Option (List Shp) := fun t => if Nat.beq t 67 then some shBk else none
/-- The bucket that is read here. -/
def bkM (M : Mem) (b off : Nat) : Bk :=
  ⟨⟨vint ((M b off).getD undef), vint ((M b (off + 1)).getD undef), vint ((M b (off + 2)).getD undef), vint ((M b (off + 3)).getD undef), vint ((M b (off + 4)).getD undef), vint ((M b (off + 5)).getD undef), vint ((M b (off + 6)).getD undef), vint ((M b (off + 7)).getD undef), vint ((M b (off + 8)).getD undef)⟩, vint ((M b (off + 9)).getD undef), vint ((M b (off + 10)).getD undef)⟩
def lstM (M : Mem) (b off n : Nat) : List Bk := (List.range n).map fun i => bkM M b (off + i * 11)
def rowsM (M : Mem) (b off n : Nat) : Bool := (List.range n).all fun i => shpMB M b (off + i * 11) shBk
def zBk : Bk := ⟨⟨0, 0, 0, 0, 0, 0, 0, 0, 0⟩, 0, 0⟩

noncomputable def c18 : Code := Try.f18.body.getD .skip
noncomputable def b18 : Code := loopOf 0 c18
theorem body18 : Try.f18.body = some c18 := by kernel_rfl
theorem items18 : items c18 = [itemN c18 0, itemN c18 1, itemN c18 2, .block 0 (.loop b18), itemN c18 4, itemN c18 5] := by kernel_rfl
section
variable (M : Mem) (b off n c : Nat) (R : List Value) (z : Nat → Value) (i : Int)
abbrev slM (b off n c : Nat) : Value := .slice (some ⟨b, off, none⟩) n c
theorem t18h : viewU [0, 3, 4] (evL Try.prog M (ovT shT shTM Try.prog M) [7] [] [] [] 300 [itemN c18 0, itemN c18 1, itemN c18 2] ⟨[slM b off n c] ++ List.replicate (Try.f18.ntmps - 1) undef, []⟩ [])
   = some (.normal, [slM b off n c, .slice (some ⟨0, 0, some ((n : Int).toNat * 11)⟩) (n : Int).toNat (n : Int).toNat, .int .i64 0], [some ⟨zcells (bc zBk) (n : Int).toNat, true, 11, true⟩], Try.f18.ntmps, [(mkB 32 n n, true)]) := by kernel_rfl
theorem t18z : viewU [2] (evL Try.prog M (ovT shT shTM Try.prog M) [] [] [] [] 300 (items c18) ⟨[.slice none 0 0] ++ List.replicate (Try.f18.ntmps - 1) undef, []⟩ [])
   = some (.ret, [.slice (some ⟨0, 0, some 0⟩) 0 0], [some ⟨[], true, 11, true⟩], Try.f18.ntmps, []) := by kernel_rfl
theorem t18r : viewU [0, 3, 4] (evL Try.prog M (ovT shT shTM Try.prog M) [18, 19, 21] [] [toBSum] [11] 300 (items b18) ⟨mkT Try.f18.ntmps [0, 3, 4] [slM b off n c, slJ 0 n n, .int .i64 i] z, [some ⟨R, true, 11, true⟩]⟩ [true])
   = some (.normal, [slM b off n c, slJ 0 n n, .int .i64 (IntKind.wrap .i64 (i + 1))], [some ⟨wr R (0 + i.toNat * 11) (bc (bkM M b (off + i.toNat * 11))), true, 11, true⟩], Try.f18.ntmps,
      [(decide (i < (n : Int)), true), (inB i n, true), (shpMB M b (off + i.toNat * 11) shBk, true), (inB i n, true), (stB ⟨R, true, 11, true⟩ (n * 11) (0 + i.toNat * 11) 11, true)]) := by kernel_rfl
theorem t18x : viewU [0, 3, 4] (evL Try.prog M (ovT shT shTM Try.prog M) [] [] [] [11] 300 (items b18) ⟨mkT Try.f18.ntmps [0, 3, 4] [slM b off n c, slJ 0 n n, .int .i64 i] z, [some ⟨R, true, 11, true⟩]⟩ [false])
   = some (.exit 0, [slM b off n c, slJ 0 n n, .int .i64 i], [some ⟨R, true, 11, true⟩], Try.f18.ntmps, [(decide (i < (n : Int)), false)]) := by kernel_rfl
theorem t18e : viewU [2] (evL Try.prog M (ovT shT shTM Try.prog M) [] [] [] [] 300 [itemN c18 4, itemN c18 5] ⟨mkT Try.f18.ntmps [0, 3, 4] [slM b off n c, slJ 0 n n, .int .i64 i] z, [some ⟨R, true, 11, true⟩]⟩ [])
   = some (.ret, [slJ 0 n n], [some ⟨R, true, 11, true⟩], Try.f18.ntmps, []) := by kernel_rfl
end
end Go.Proofs.Ytfkdcpinajnbfaa
