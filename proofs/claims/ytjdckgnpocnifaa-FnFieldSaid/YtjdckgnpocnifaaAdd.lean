/- The program's sums and differences, its power.
   Conditions: the limbs are in bounds. -/
import Derived.Test.YtjdckgnpocnifaaGA
import Derived.Test.YtjdckgnpocnifaaAbC
import Derived.Test.YtjdckgnpocnifaaFieldMul
open Go.Ab Go.Num
set_option linter.unusedVariables false
set_option linter.unusedSimpArgs false
namespace Go.Proofs.Ytjdckgnpocnifaa

def sumL (x y : Nat → Int) : List Value := (List.range 5).map fun i => .int .u64 (IntKind.u64.wrap (x i + y i))
def difL (x y : Nat → Int) : List Value := (List.range 5).map fun i => .int .u64 (IntKind.u64.wrap (x i + IntKind.u64.wrap (cS i - carE (wd (cellsI .u64 5 y)) i)))

set_option maxRecDepth 100000 in
theorem r31 (M : Mem) (x y : Nat → Int) : evFC Try.prog M [carrySum 24] [] 500 Try.f31 [.agg ⟨cellsI .u64 5 x⟩, .agg ⟨cellsI .u64 5 y⟩] [] []
   = some ((.agg ⟨cellsI .u64 5 (carE (wd (sumL x y)))⟩, [], []), [(leB 9223372036854775807 (sumL x y), true)]) := by kernel_rfl
set_option maxRecDepth 100000 in
theorem r32 (M : Mem) (x y : Nat → Int) : evFC Try.prog M [carrySum 24] [] 500 Try.f32 [.agg ⟨cellsI .u64 5 x⟩, .agg ⟨cellsI .u64 5 y⟩] [] []
   = some ((.agg ⟨cellsI .u64 5 (carE (wd (difL x y)))⟩, [], []), [(leB 9223372036854775807 (cellsI .u64 5 y), true), (leB 9223372036854775807 (difL x y), true)]) := by kernel_rfl

theorem add31 (M : Mem) : (opESum 31 addE).SoundC Try.prog M := opESum_sound Try.func31 (by kernel_rfl) (by kernel_rfl) fun x y hx hy => by
  have e : sumL x y = cellsI .u64 5 fun i => x i + y i := cellsI_congr fun i hi => by
    have := hx i hi; have := hy i hi
    unfold RB at *
    rw [Num.wrap64_id (by omega) (by omega)]
  have hl : leB 9223372036854775807 (cellsI .u64 5 fun i => x i + y i) = true := leB_iff.2 fun i hi => by have := hx i hi; have := hy i hi; unfold RB at *; omega
  have := acalls_of_evFC (consC (carry24 M) nilC) mix Try.func31 (r31 M x y) (held_one (by rw [e]; exact hl))
  rw [e, cellsI_congr (carE_congr fun i hi => wd_cellsI hi)] at this
  exact this

theorem sub32 (M : Mem) : (opESum 32 subE).SoundC Try.prog M := opESum_sound Try.func32 (by kernel_rfl) (by kernel_rfl) fun x y hx hy => by
  have ey : ∀ i, i < 5 → carE (wd (cellsI .u64 5 y)) i = carE y i := carE_congr fun i hi => wd_cellsI hi
  have hb := sub_bd hx hy
  have e : difL x y = cellsI .u64 5 fun i => x i + (cS i - carE y i) := cellsI_congr fun i hi => by
    have := hb i hi
    have := hx i hi
    have := carE_rb (bd_mono (K := RB) (by decide) hy) i hi
    have := cS_range i
    unfold RB at *
    simp only at *
    rw [ey i hi, Num.wrap64_id (a := cS i - carE y i) (by omega) (by omega), Num.wrap64_id (by omega) (by omega)]
  have := acalls_of_evFC (consC (carry24 M) nilC) mix Try.func32 (r32 M x y) (held_cons (bd_le (by decide) hy) (held_one (by rw [e]; exact leB_iff.2 hb)))
  rw [e, cellsI_congr (carE_congr fun i hi => wd_cellsI hi)] at this
  exact this

/-! ### The power -/
noncomputable def loop33 : Code := loopOf 0 (Try.f33.body.getD .skip)
set_option maxRecDepth 100000 in
theorem occ33 : occ 0 (Try.f33.body.getD .skip) = [.loop loop33] := by kernel_rfl

def sqM (r : Nat → Int) : Nat → Int := mulE (wd (cellsI .u64 5 r)) (wd (cellsI .u64 5 r))
def sqMM (r a : Nat → Int) : Nat → Int := mulE (wd (cellsI .u64 5 (sqM r))) (wd (cellsI .u64 5 a))
def rb2 (r a : Nat → Int) : Bool := leB RB (cellsI .u64 5 r) && leB RB (cellsI .u64 5 a)

set_option maxRecDepth 100000 in
theorem step33m (M : Mem) (r a : Nat → Int) (o2 : AObj) (g g2 : Bool) (e e2 : Nat) (v2 : Value) (k : Int) (z : Nat → Value) :
   viewU [1, 2, 3, 4] (evU Try.prog M (ovX Try.prog M) [] [] [opESum 25 mulE] [7, 14, 17] 300 loop33 ⟨mkT 23 [1, 2, 3, 4] [.pointer (some ⟨0, 0, some 5⟩), v2, .pointer (some ⟨2, 0, some 5⟩), .int .i64 k] z, [some ⟨cellsI .u64 5 a, g, e, true⟩, some o2, some ⟨cellsI .u64 5 r, g2, e2, true⟩]⟩ [true, true, true])
   = some (.normal, [.pointer (some ⟨0, 0, some 5⟩), v2, .pointer (some ⟨2, 0, some 5⟩), .int .i64 (IntKind.i64.wrap (k - 1))], [some ⟨cellsI .u64 5 a, g, e, true⟩, some o2, some ⟨cellsI .u64 5 (sqMM r a), g2, e2, true⟩], 23,
      [(decide (k ≥ 0), true), (rb2 r r, true), (k != 2, true), (k != 4, true), (rb2 (sqM r) a, true)]) := by kernel_rfl
set_option maxRecDepth 100000 in
theorem step33a (M : Mem) (r a : Nat → Int) (o2 : AObj) (g g2 : Bool) (e e2 : Nat) (v2 : Value) (k : Int) (z : Nat → Value) :
   viewU [1, 2, 3, 4] (evU Try.prog M (ovX Try.prog M) [] [] [opESum 25 mulE] [7, 14, 17] 300 loop33 ⟨mkT 23 [1, 2, 3, 4] [.pointer (some ⟨0, 0, some 5⟩), v2, .pointer (some ⟨2, 0, some 5⟩), .int .i64 k] z, [some ⟨cellsI .u64 5 a, g, e, true⟩, some o2, some ⟨cellsI .u64 5 r, g2, e2, true⟩]⟩ [true, false])
   = some (.normal, [.pointer (some ⟨0, 0, some 5⟩), v2, .pointer (some ⟨2, 0, some 5⟩), .int .i64 (IntKind.i64.wrap (k - 1))], [some ⟨cellsI .u64 5 a, g, e, true⟩, some o2, some ⟨cellsI .u64 5 (sqM r), g2, e2, true⟩], 23,
      [(decide (k ≥ 0), true), (rb2 r r, true), (k != 2, false)]) := by kernel_rfl
set_option maxRecDepth 100000 in
theorem step33b (M : Mem) (r a : Nat → Int) (o2 : AObj) (g g2 : Bool) (e e2 : Nat) (v2 : Value) (k : Int) (z : Nat → Value) :
   viewU [1, 2, 3, 4] (evU Try.prog M (ovX Try.prog M) [] [] [opESum 25 mulE] [7, 14, 17] 300 loop33 ⟨mkT 23 [1, 2, 3, 4] [.pointer (some ⟨0, 0, some 5⟩), v2, .pointer (some ⟨2, 0, some 5⟩), .int .i64 k] z, [some ⟨cellsI .u64 5 a, g, e, true⟩, some o2, some ⟨cellsI .u64 5 r, g2, e2, true⟩]⟩ [true, true, false])
   = some (.normal, [.pointer (some ⟨0, 0, some 5⟩), v2, .pointer (some ⟨2, 0, some 5⟩), .int .i64 (IntKind.i64.wrap (k - 1))], [some ⟨cellsI .u64 5 a, g, e, true⟩, some o2, some ⟨cellsI .u64 5 (sqM r), g2, e2, true⟩], 23,
      [(decide (k ≥ 0), true), (rb2 r r, true), (k != 2, true), (k != 4, false)]) := by kernel_rfl
set_option maxRecDepth 100000 in
theorem last33 (M : Mem) (H : AHeap) (v1 v2 v3 : Value) (k : Int) (z : Nat → Value) :
   viewU [2, 3] (evU Try.prog M (ovX Try.prog M) [] [] [opESum 25 mulE] [7, 14, 17] 300 loop33 ⟨mkT 23 [1, 2, 3, 4] [v1, v2, v3, .int .i64 k] z, H⟩ [false])
   = some (.exit 0, [v2, v3], H, 23, [(decide (k ≥ 0), false)]) := by kernel_rfl

end Go.Proofs.Ytjdckgnpocnifaa
