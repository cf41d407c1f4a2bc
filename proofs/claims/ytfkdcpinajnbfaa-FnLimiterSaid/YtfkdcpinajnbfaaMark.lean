/- Slices of buckets marked, and looked at for the marks.
   Conditions: numbers that stay small. -/
import Derived.Test.YtfkdcpinajnbfaaEq
import Derived.Test.YtfkdcpinajnbfaaAbD
open Go.Ab
set_option linter.unusedVariables false
set_option linter.unusedSimpArgs false
namespace Go.Proofs.Ytfkdcpinajnbfaa
set_option maxRecDepth 100000

def u8W (x : Int) : Int := IntKind.wrap .u8 x
/-- A bucket marked from k on. -/
def markB (k : Int) : Bk := ⟨⟨u8W (cnt64 k 0), u8W (cnt64 k 1), u8W (cnt64 k 2), u8W (cnt64 k 3), u8W (cnt64 k 4), u8W (cnt64 k 5), u8W (cnt64 k 6), u8W (cnt64 k 7), u8W (cnt64 k 8)⟩, cnt64 k 9, cnt64 k 10⟩
def kAt (k : Int) : Nat → Int
  | 0 => k
  | i + 1 => cnt64 (kAt k i) 11
def markLs (k : Int) (n : Nat) : List Bk := (List.range n).map fun i => markB (kAt k i)

/-- The cells of one bucket, written. -/
def wrB (R : List Value) (off : Nat) (b : Bk) : List Value :=
  wr (wr (wr (wr (wr (wr (wr (wr (wr (wr (wr R (off + 0 * 1) [.int .u8 b.k.a0]) (off + 1 * 1) [.int .u8 b.k.a1]) (off + 2 * 1) [.int .u8 b.k.a2]) (off + 3 * 1) [.int .u8 b.k.a3]) (off + 4 * 1) [.int .u8 b.k.a4]) (off + 5 * 1) [.int .u8 b.k.a5]) (off + 6 * 1) [.int .u8 b.k.a6]) (off + 7 * 1) [.int .u8 b.k.a7]) (off + 8 * 1) [.int .u8 b.k.a8]) (off + 9) [.int .i64 b.tok]) (off + 10) [.int .i64 b.last]

noncomputable def c24 : Code := Try.f24.body.getD .skip
noncomputable def b24 : Code := loopOf 0 c24
noncomputable def c25 : Code := Try.f25.body.getD .skip
noncomputable def b25 : Code := loopOf 0 c25
theorem body24 : Try.f24.body = some c24 := by kernel_rfl
theorem items24 : items c24 = [itemN c24 0, itemN c24 1, .block 0 (.loop b24), itemN c24 3, itemN c24 4] := by kernel_rfl
theorem body25 : Try.f25.body = some c25 := by kernel_rfl
theorem items25 : items c25 = [itemN c25 0, itemN c25 1, .block 0 (.loop b25), itemN c25 3, itemN c25 4] := by kernel_rfl
section
variable (M : Mem) (R : List Value) (gr : Bool) (es n c : Nat) (z : Nat → Value) (i k : Int)
abbrev hOne (R : List Value) (gr : Bool) (es : Nat) : AHeap := [some ⟨R, gr, es, true⟩]
theorem m24h : viewU [0, 1, 5] (evL Try.prog M (ovS shT Try.prog M) [] [] [] [] 300 [itemN c24 0, itemN c24 1] ⟨[slJ 0 n c, .int .i64 k] ++ List.replicate (Try.f24.ntmps - 2) undef, hOne R gr es⟩ [])
   = some (.normal, [slJ 0 n c, .int .i64 k, .int .i64 0], hOne R gr es, Try.f24.ntmps, []) := by kernel_rfl
theorem m24x : viewU [0, 1, 5] (evL Try.prog M (ovS shT Try.prog M) [] [] [] [10] 300 (items b24) ⟨mkT Try.f24.ntmps [0, 1, 5] [slJ 0 n c, .int .i64 k, .int .i64 i] z, hOne R gr es⟩ [false])
   = some (.exit 0, [slJ 0 n c, .int .i64 k, .int .i64 i], hOne R gr es, Try.f24.ntmps, [(decide (i < (n : Int)), false)]) := by kernel_rfl
theorem m24e : viewU [4] (evL Try.prog M (ovS shT Try.prog M) [] [] [] [] 300 [itemN c24 3, itemN c24 4] ⟨mkT Try.f24.ntmps [0, 1, 5] [slJ 0 n c, .int .i64 k, .int .i64 i] z, hOne R gr es⟩ [])
   = some (.ret, [.int .i64 k], hOne R gr es, Try.f24.ntmps, []) := by kernel_rfl
/-- What is asked where a bucket is written. -/
def wrPin (R : List Value) (gr : Bool) (es n : Nat) (i : Int) (off : Nat) (b : Bk) : Pins := [(inB i n, true), (true, true), (stB ⟨R, gr, es, true⟩ (n * 11) (off + 0 * 1) 1, true), (inB i n, true), (true, true), (stB ⟨(wr R (off + 0 * 1) [.int .u8 b.k.a0]), gr, es, true⟩ (n * 11) (off + 1 * 1) 1, true), (inB i n, true), (true, true), (stB ⟨(wr (wr R (off + 0 * 1) [.int .u8 b.k.a0]) (off + 1 * 1) [.int .u8 b.k.a1]), gr, es, true⟩ (n * 11) (off + 2 * 1) 1, true), (inB i n, true), (true, true), (stB ⟨(wr (wr (wr R (off + 0 * 1) [.int .u8 b.k.a0]) (off + 1 * 1) [.int .u8 b.k.a1]) (off + 2 * 1) [.int .u8 b.k.a2]), gr, es, true⟩ (n * 11) (off + 3 * 1) 1, true), (inB i n, true), (true, true), (stB ⟨(wr (wr (wr (wr R (off + 0 * 1) [.int .u8 b.k.a0]) (off + 1 * 1) [.int .u8 b.k.a1]) (off + 2 * 1) [.int .u8 b.k.a2]) (off + 3 * 1) [.int .u8 b.k.a3]), gr, es, true⟩ (n * 11) (off + 4 * 1) 1, true), (inB i n, true), (true, true), (stB ⟨(wr (wr (wr (wr (wr R (off + 0 * 1) [.int .u8 b.k.a0]) (off + 1 * 1) [.int .u8 b.k.a1]) (off + 2 * 1) [.int .u8 b.k.a2]) (off + 3 * 1) [.int .u8 b.k.a3]) (off + 4 * 1) [.int .u8 b.k.a4]), gr, es, true⟩ (n * 11) (off + 5 * 1) 1, true), (inB i n, true), (true, true), (stB ⟨(wr (wr (wr (wr (wr (wr R (off + 0 * 1) [.int .u8 b.k.a0]) (off + 1 * 1) [.int .u8 b.k.a1]) (off + 2 * 1) [.int .u8 b.k.a2]) (off + 3 * 1) [.int .u8 b.k.a3]) (off + 4 * 1) [.int .u8 b.k.a4]) (off + 5 * 1) [.int .u8 b.k.a5]), gr, es, true⟩ (n * 11) (off + 6 * 1) 1, true), (inB i n, true), (true, true), (stB ⟨(wr (wr (wr (wr (wr (wr (wr R (off + 0 * 1) [.int .u8 b.k.a0]) (off + 1 * 1) [.int .u8 b.k.a1]) (off + 2 * 1) [.int .u8 b.k.a2]) (off + 3 * 1) [.int .u8 b.k.a3]) (off + 4 * 1) [.int .u8 b.k.a4]) (off + 5 * 1) [.int .u8 b.k.a5]) (off + 6 * 1) [.int .u8 b.k.a6]), gr, es, true⟩ (n * 11) (off + 7 * 1) 1, true), (inB i n, true), (true, true), (stB ⟨(wr (wr (wr (wr (wr (wr (wr (wr R (off + 0 * 1) [.int .u8 b.k.a0]) (off + 1 * 1) [.int .u8 b.k.a1]) (off + 2 * 1) [.int .u8 b.k.a2]) (off + 3 * 1) [.int .u8 b.k.a3]) (off + 4 * 1) [.int .u8 b.k.a4]) (off + 5 * 1) [.int .u8 b.k.a5]) (off + 6 * 1) [.int .u8 b.k.a6]) (off + 7 * 1) [.int .u8 b.k.a7]), gr, es, true⟩ (n * 11) (off + 8 * 1) 1, true), (inB i n, true), (stB ⟨(wr (wr (wr (wr (wr (wr (wr (wr (wr R (off + 0 * 1) [.int .u8 b.k.a0]) (off + 1 * 1) [.int .u8 b.k.a1]) (off + 2 * 1) [.int .u8 b.k.a2]) (off + 3 * 1) [.int .u8 b.k.a3]) (off + 4 * 1) [.int .u8 b.k.a4]) (off + 5 * 1) [.int .u8 b.k.a5]) (off + 6 * 1) [.int .u8 b.k.a6]) (off + 7 * 1) [.int .u8 b.k.a7]) (off + 8 * 1) [.int .u8 b.k.a8]), gr, es, true⟩ (n * 11) (off + 9) 1, true), (inB i n, true), (stB ⟨(wr (wr (wr (wr (wr (wr (wr (wr (wr (wr R (off + 0 * 1) [.int .u8 b.k.a0]) (off + 1 * 1) [.int .u8 b.k.a1]) (off + 2 * 1) [.int .u8 b.k.a2]) (off + 3 * 1) [.int .u8 b.k.a3]) (off + 4 * 1) [.int .u8 b.k.a4]) (off + 5 * 1) [.int .u8 b.k.a5]) (off + 6 * 1) [.int .u8 b.k.a6]) (off + 7 * 1) [.int .u8 b.k.a7]) (off + 8 * 1) [.int .u8 b.k.a8]) (off + 9) [.int .i64 b.tok]), gr, es, true⟩ (n * 11) (off + 10) 1, true)]
theorem m24r : viewU [0, 1, 5] (evL Try.prog M (ovT shT (fun _ => none) Try.prog M) [22, 24, 30, 31, 37, 38] [] [] [10] 400 (items b24) ⟨mkT Try.f24.ntmps [0, 1, 5] [slJ 0 n c, .int .i64 k, .int .i64 i] z, hOne R gr es⟩ [true])
   = some (.normal, [slJ 0 n c, .int .i64 (cnt64 k 11), .int .i64 (IntKind.wrap .i64 (i + 1))], hOne (wrB R (0 + i.toNat * 11) (markB k)) gr es, Try.f24.ntmps, (decide (i < (n : Int)), true) :: wrPin R gr es n i (0 + i.toNat * 11) (markB k)) := by kernel_rfl
theorem d25h : viewU [0, 1, 5] (evL Try.prog M (ovS shT Try.prog M) [] [] [] [] 300 [itemN c25 0, itemN c25 1] ⟨[slJ 0 n c, .int .i64 k] ++ List.replicate (Try.f25.ntmps - 2) undef, hOne R gr es⟩ [])
   = some (.normal, [slJ 0 n c, .int .i64 k, .int .i64 0], hOne R gr es, Try.f25.ntmps, []) := by kernel_rfl
theorem d25x : viewU [0, 1, 5] (evL Try.prog M (ovS shT Try.prog M) [] [] [] [10] 300 (items b25) ⟨mkT Try.f25.ntmps [0, 1, 5] [slJ 0 n c, .int .i64 k, .int .i64 i] z, hOne R gr es⟩ [false])
   = some (.exit 0, [slJ 0 n c, .int .i64 k, .int .i64 i], hOne R gr es, Try.f25.ntmps, [(decide (i < (n : Int)), false)]) := by kernel_rfl
theorem d25e : viewU [4] (evL Try.prog M (ovS shT Try.prog M) [] [] [] [] 300 [itemN c25 3, itemN c25 4] ⟨mkT Try.f25.ntmps [0, 1, 5] [slJ 0 n c, .int .i64 k, .int .i64 i] z, hOne R gr es⟩ [])
   = some (.ret, [.int .i64 k], hOne R gr es, Try.f25.ntmps, []) := by kernel_rfl
/-- What is asked where a bucket is looked at. -/
def ldPin (R : List Value) (gr : Bool) (es n : Nat) (i k : Int) : Pins := [(decide (i < (n : Int)), true), (inB i n, true), (true, true), (ldB .u8 ⟨R, gr, es, true⟩ (n * 11) (0 + i.toNat * 11 + 0 * 1), true), (vint (atC R (0 + i.toNat * 11 + 0 * 1)) != u8W (cnt64 k 0), false), (inB i n, true), (true, true), (ldB .u8 ⟨R, gr, es, true⟩ (n * 11) (0 + i.toNat * 11 + 1 * 1), true), (vint (atC R (0 + i.toNat * 11 + 1 * 1)) != u8W (cnt64 k 1), false), (inB i n, true), (true, true), (ldB .u8 ⟨R, gr, es, true⟩ (n * 11) (0 + i.toNat * 11 + 2 * 1), true), (vint (atC R (0 + i.toNat * 11 + 2 * 1)) != u8W (cnt64 k 2), false), (inB i n, true), (true, true), (ldB .u8 ⟨R, gr, es, true⟩ (n * 11) (0 + i.toNat * 11 + 3 * 1), true), (vint (atC R (0 + i.toNat * 11 + 3 * 1)) != u8W (cnt64 k 3), false), (inB i n, true), (true, true), (ldB .u8 ⟨R, gr, es, true⟩ (n * 11) (0 + i.toNat * 11 + 4 * 1), true), (vint (atC R (0 + i.toNat * 11 + 4 * 1)) != u8W (cnt64 k 4), false), (inB i n, true), (true, true), (ldB .u8 ⟨R, gr, es, true⟩ (n * 11) (0 + i.toNat * 11 + 5 * 1), true), (vint (atC R (0 + i.toNat * 11 + 5 * 1)) != u8W (cnt64 k 5), false), (inB i n, true), (true, true), (ldB .u8 ⟨R, gr, es, true⟩ (n * 11) (0 + i.toNat * 11 + 6 * 1), true), (vint (atC R (0 + i.toNat * 11 + 6 * 1)) != u8W (cnt64 k 6), false), (inB i n, true), (true, true), (ldB .u8 ⟨R, gr, es, true⟩ (n * 11) (0 + i.toNat * 11 + 7 * 1), true), (vint (atC R (0 + i.toNat * 11 + 7 * 1)) != u8W (cnt64 k 7), false), (inB i n, true), (true, true), (ldB .u8 ⟨R, gr, es, true⟩ (n * 11) (0 + i.toNat * 11 + 8 * 1), true), (vint (atC R (0 + i.toNat * 11 + 8 * 1)) != u8W (cnt64 k 8), false), (inB i n, true), (ldB .i64 ⟨R, gr, es, true⟩ (n * 11) (0 + i.toNat * 11 + 9), true), (vint (atC R (0 + i.toNat * 11 + 9)) != cnt64 k 9, false), (inB i n, true), (ldB .i64 ⟨R, gr, es, true⟩ (n * 11) (0 + i.toNat * 11 + 10), true), (vint (atC R (0 + i.toNat * 11 + 10)) != cnt64 k 10, false)]
theorem d25r : viewU [0, 1, 5] (evL Try.prog M (ovT shT (fun _ => none) Try.prog M) [20, 22, 23, 31, 33, 40, 42] [] [] [10, 26, 35, 44] 400 (items b25) ⟨mkT Try.f25.ntmps [0, 1, 5] [slJ 0 n c, .int .i64 k, .int .i64 i] z, hOne R gr es⟩ [true, false, false, false, false, false, false, false, false, false, false, false])
   = some (.normal, [slJ 0 n c, .int .i64 (cnt64 k 11), .int .i64 (IntKind.wrap .i64 (i + 1))], hOne R gr es, Try.f25.ntmps, ldPin R gr es n i k) := by kernel_rfl
end
end Go.Proofs.Ytfkdcpinajnbfaa
