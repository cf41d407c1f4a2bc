/- One round of the program's ladder.
   Conditions: the limbs are in bounds. -/
import Derived.Test.YtjdckgnpocnifaaPower
open Go.Ab Go.Num
set_option linter.unusedVariables false
set_option linter.unusedSimpArgs false
namespace Go.Proofs.Ytjdckgnpocnifaa

noncomputable def loop15 : Code := loopOf 0 (Try.f15.body.getD .skip)
set_option maxRecDepth 100000 in
theorem occ15 : occ 0 (Try.f15.body.getD .skip) = [.loop loop15] := by kernel_rfl

def We (f : Nat → Int) : Nat → Int := wd (cellsI .u64 5 f)
def e121665 (i : Nat) : Int := bif Nat.beq i 0 then 121665 else 0

def eA (x z : Nat → Int) : Nat → Int := addE (We x) (We z)
def eB (x z : Nat → Int) : Nat → Int := subE (We x) (We z)
def eM (x z : Nat → Int) : Nat → Int := mulE (We x) (We z)

/-- The doubled point's x and z, out of its sum and difference. -/
def eAA (x z : Nat → Int) : Nat → Int := eM (eA x z) (eA x z)
def eBB (x z : Nat → Int) : Nat → Int := eM (eB x z) (eB x z)
def eE (x z : Nat → Int) : Nat → Int := eB (eAA x z) (eBB x z)
def eDX (x z : Nat → Int) : Nat → Int := eM (eAA x z) (eBB x z)
def eDZ (x z : Nat → Int) : Nat → Int := eM (eE x z) (eA (eAA x z) (eM (eE x z) e121665))
def eDA (x z x3 z3 : Nat → Int) : Nat → Int := eM (eB x3 z3) (eA x z)
def eCB (x z x3 z3 : Nat → Int) : Nat → Int := eM (eA x3 z3) (eB x z)
def eSX (x z x3 z3 : Nat → Int) : Nat → Int := eM (eA (eDA x z x3 z3) (eCB x z x3 z3)) (eA (eDA x z x3 z3) (eCB x z x3 z3))
def eT (x z x3 z3 : Nat → Int) : Nat → Int := eB (eDA x z x3 z3) (eCB x z x3 z3)
def eSZ (u x z x3 z3 : Nat → Int) : Nat → Int := eM u (eM (eT x z x3 z3) (eT x z x3 z3))

def lb (x y : Nat → Int) : Bool × Bool := (leB RB (cellsI .u64 5 x) && leB RB (cellsI .u64 5 y), true)

def ePins (u x z x3 z3 : Nat → Int) : Pins :=
  [lb x z, lb x z, lb x3 z3, lb x3 z3, lb (eA x z) (eA x z), lb (eB x z) (eB x z), lb (eAA x z) (eBB x z), lb (eB x3 z3) (eA x z), lb (eA x3 z3) (eB x z),
   lb (eDA x z x3 z3) (eCB x z x3 z3), lb (eDA x z x3 z3) (eCB x z x3 z3), lb (eA (eDA x z x3 z3) (eCB x z x3 z3)) (eA (eDA x z x3 z3) (eCB x z x3 z3)),
   lb (eT x z x3 z3) (eT x z x3 z3), lb u (eM (eT x z x3 z3) (eT x z x3 z3)), lb (eAA x z) (eBB x z), lb (eE x z) e121665, lb (eAA x z) (eM (eE x z) e121665), lb (eE x z) (eA (eAA x z) (eM (eE x z) e121665))]

def bitP (S : List Value) (k : Int) : Bool := bits .and .u8 (vint (atC S (0 + (IntKind.i64.wrap (k.tdiv 8)).toNat * 1)) / 2 ^ (k.tmod 8).toNat) 1 == 1
def bPins (S : List Value) (g : Bool) (e : Nat) (k : Int) (b : Bool) : Pins :=
  [(decide (k ≥ 0), true), (inB (IntKind.i64.wrap (k.tdiv 8)) 32, true), (ldB .u8 ⟨S, g, e, true⟩ 32 (0 + (IntKind.i64.wrap (k.tdiv 8)).toNat * 1), true), (shB .u8 (k.tmod 8), true), (bitP S k, b)]

/-- What stands in the ladder's loop. -/
def vs15 (m k : Int) : List Value := [.int .i64 m, .pointer (some ⟨0, 0, some 32⟩), .pointer (some ⟨2, 0, some 32⟩), .pointer (some ⟨3, 0, some 5⟩), .pointer (some ⟨4, 0, some 5⟩), .pointer (some ⟨5, 0, some 5⟩), .pointer (some ⟨6, 0, some 5⟩), .pointer (some ⟨7, 0, some 5⟩), .int .i64 k]
structure Gs where
  g0 : Bool
  g3 : Bool
  g4 : Bool
  g5 : Bool
  g6 : Bool
  g7 : Bool
  e0 : Nat
  e3 : Nat
  e4 : Nat
  e5 : Nat
  e6 : Nat
  e7 : Nat
def hs15 (q : Gs) (o1 o2 : AObj) (S : List Value) (u x2 z2 x3 z3 : Nat → Int) : AHeap :=
  [some ⟨S, q.g0, q.e0, true⟩, some o1, some o2, some ⟨cellsI .u64 5 u, q.g3, q.e3, true⟩, some ⟨cellsI .u64 5 x2, q.g4, q.e4, true⟩, some ⟨cellsI .u64 5 z2, q.g5, q.e5, true⟩, some ⟨cellsI .u64 5 x3, q.g6, q.e6, true⟩, some ⟨cellsI .u64 5 z3, q.g7, q.e7, true⟩]

def L15 : List Sum := [opESum 25 mulE, opESum 31 addE, opESum 32 subE]
theorem L15_sound (M : Mem) : ∀ s ∈ L15, s.SoundC Try.prog M := consC (mul25 M) (consC (add31 M) (consC (sub32 M) nilC))

set_option maxRecDepth 100000 in
theorem step15f (M : Mem) (q : Gs) (o1 o2 : AObj) (S : List Value) (u x2 z2 x3 z3 : Nat → Int) (m k : Int) (z : Nat → Value) :
   viewK [2, 3, 6, 8, 9, 10, 11, 12, 13] [] 8 4 (evU Try.prog M (ovX Try.prog M) [55, 56, 59] [] L15 [50, 61] 500 loop15 ⟨mkT 130 [2, 3, 6, 8, 9, 10, 11, 12, 13] (vs15 m k) z, hs15 q ⟨o1.cells, o1.grow, o1.esz, true⟩ ⟨o2.cells, o2.grow, o2.esz, true⟩ S u x2 z2 x3 z3⟩ [true, false])
   = some (.normal, vs15 m (IntKind.i64.wrap (k - 1)), hs15 q ⟨o1.cells, o1.grow, o1.esz, true⟩ ⟨o2.cells, o2.grow, o2.esz, true⟩ S u (eDX x2 z2) (eDZ x2 z2) (eSX x2 z2 x3 z3) (eSZ u x2 z2 x3 z3), 130, bPins S q.g0 q.e0 k false ++ ePins u x2 z2 x3 z3) := by kernel_rfl
set_option maxRecDepth 100000 in
theorem step15t (M : Mem) (q : Gs) (o1 o2 : AObj) (S : List Value) (u x2 z2 x3 z3 : Nat → Int) (m k : Int) (z : Nat → Value) :
   viewK [2, 3, 6, 8, 9, 10, 11, 12, 13] [] 8 4 (evU Try.prog M (ovX Try.prog M) [55, 56, 59] [] L15 [50, 61] 500 loop15 ⟨mkT 130 [2, 3, 6, 8, 9, 10, 11, 12, 13] (vs15 m k) z, hs15 q ⟨o1.cells, o1.grow, o1.esz, true⟩ ⟨o2.cells, o2.grow, o2.esz, true⟩ S u x2 z2 x3 z3⟩ [true, true])
   = some (.normal, vs15 m (IntKind.i64.wrap (k - 1)), hs15 q ⟨o1.cells, o1.grow, o1.esz, true⟩ ⟨o2.cells, o2.grow, o2.esz, true⟩ S u (eSX x3 z3 x2 z2) (eSZ u x3 z3 x2 z2) (eDX x3 z3) (eDZ x3 z3), 130, bPins S q.g0 q.e0 k true ++ ePins u x3 z3 x2 z2) := by kernel_rfl
set_option maxRecDepth 100000 in
theorem last15 (M : Mem) (H : AHeap) (m k : Int) (z : Nat → Value) :
   viewU [2, 6, 9, 10] (evU Try.prog M (ovX Try.prog M) [] [] [] [50] 500 loop15 ⟨mkT 130 [2, 3, 6, 8, 9, 10, 11, 12, 13] (vs15 m k) z, H⟩ [false])
   = some (.exit 0, [.int .i64 m, .pointer (some ⟨2, 0, some 32⟩), .pointer (some ⟨4, 0, some 5⟩), .pointer (some ⟨5, 0, some 5⟩)], H, 130, [(decide (k ≥ 0), false)]) := by kernel_rfl

end Go.Proofs.Ytjdckgnpocnifaa
