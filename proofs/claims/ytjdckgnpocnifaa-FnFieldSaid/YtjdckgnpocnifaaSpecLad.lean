/- The specification's points: doubling and adding; its bits; its power.
   Conditions: the digits are in bounds. -/
import Derived.Test.YtjdckgnpocnifaaScalar2
open Go.Ab Go.Num
set_option linter.unusedVariables false
set_option linter.unusedSimpArgs false
namespace Go.Proofs.Ytjdckgnpocnifaa

def Wd (f : Nat → Int) : Nat → Int := wd (cellsI .i64 16 f)
def dA (x z : Nat → Int) : Nat → Int := addD (Wd x) (Wd z)
def dB (x z : Nat → Int) : Nat → Int := subD (Wd x) (Wd z)
def dM (x z : Nat → Int) : Nat → Int := mulD (Wd x) (Wd z)
def hi16 (p : Nat → Int) (i : Nat) : Int := p (16 + i)
def join16 (x z : Nat → Int) (i : Nat) : Int := bif Nat.blt i 16 then x i else z (i - 16)
def tD (aa e : Nat → Int) : List Value := (List.range 16).map fun k => .int .i64 (IntKind.i64.wrap (aa k + IntKind.i64.wrap (121665 * e k)))

def dAA (p : Nat → Int) : Nat → Int := dM (dA p (hi16 p)) (dA p (hi16 p))
def dBB (p : Nat → Int) : Nat → Int := dM (dB p (hi16 p)) (dB p (hi16 p))
def dE (p : Nat → Int) : Nat → Int := dB (dAA p) (dBB p)
def dDX (p : Nat → Int) : Nat → Int := dM (dAA p) (dBB p)
def dDZ (p : Nat → Int) : Nat → Int := dM (dE p) (pass3 (wd (tD (dAA p) (dE p))))
def dDA (p q : Nat → Int) : Nat → Int := dM (dB q (hi16 q)) (dA p (hi16 p))
def dCB (p q : Nat → Int) : Nat → Int := dM (dA q (hi16 q)) (dB p (hi16 p))
def dSX (p q : Nat → Int) : Nat → Int := dM (dA (dDA p q) (dCB p q)) (dA (dDA p q) (dCB p q))
def dV (p q : Nat → Int) : Nat → Int := dB (dDA p q) (dCB p q)
def dSZ (p q x : Nat → Int) : Nat → Int := dM x (dM (dV p q) (dV p q))

def ld (x y : Nat → Int) : Bool × Bool := (leB 65535 (cellsI .i64 16 x) && leB 65535 (cellsI .i64 16 y), true)

def L44 : List Sum := [opDSum 21 mulD, opDSum 46 addD, opDSum 47 subD, carry3Sum 35]
theorem L44_sound (M : Mem) : ∀ s ∈ L44, s.SoundC Try.prog M := consC (mul21 M) (consC (add46 M) (consC (sub47 M) (consC (carry35 M) nilC)))

def dblPins (p : Nat → Int) : Pins := [ld p (hi16 p), ld p (hi16 p), ld (dA p (hi16 p)) (dA p (hi16 p)), ld (dB p (hi16 p)) (dB p (hi16 p)), ld (dAA p) (dBB p), ld (dAA p) (dBB p), (leB 100000000000000 (tD (dAA p) (dE p)), true), ld (dE p) (pass3 (wd (tD (dAA p) (dE p))))]

set_option maxRecDepth 100000 in
theorem r44 (M : Mem) (p : Nat → Int) : evFC Try.prog M L44 [] 1000 Try.f44 [.agg ⟨cellsI .i64 32 p⟩] [] []
   = some ((.agg ⟨cellsI .i64 32 (join16 (dDX p) (dDZ p))⟩, [], []), dblPins p) := by kernel_rfl

def addPinsD (p q x : Nat → Int) : Pins := [ld p (hi16 p), ld p (hi16 p), ld q (hi16 q), ld q (hi16 q), ld (dB q (hi16 q)) (dA p (hi16 p)), ld (dA q (hi16 q)) (dB p (hi16 p)), ld (dDA p q) (dCB p q), ld (dDA p q) (dCB p q),
   ld (dA (dDA p q) (dCB p q)) (dA (dDA p q) (dCB p q)), ld (dV p q) (dV p q), ld x (dM (dV p q) (dV p q))]

set_option maxRecDepth 100000 in
theorem r42 (M : Mem) (p q x : Nat → Int) : evFC Try.prog M L44 [] 1000 Try.f42 [.agg ⟨cellsI .i64 32 p⟩, .agg ⟨cellsI .i64 32 q⟩, .agg ⟨cellsI .i64 16 x⟩] [] []
   = some ((.agg ⟨cellsI .i64 32 (join16 (dSX p q) (dSZ p q x))⟩, [], []), addPinsD p q x) := by kernel_rfl

end Go.Proofs.Ytjdckgnpocnifaa
