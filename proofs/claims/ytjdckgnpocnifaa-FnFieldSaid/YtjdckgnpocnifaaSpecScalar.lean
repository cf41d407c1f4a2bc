/- The specification's ScalarMult meets the contract.
   Conditions: none. -/
import Derived.Test.YtjdckgnpocnifaaSpecRec
open Go.Ab Go.Num
set_option linter.unusedVariables false
set_option linter.unusedSimpArgs false
namespace Go.Proofs.Ytjdckgnpocnifaa

def PLs (p : Nat → Int) : List Value := (List.range 32).map fun i => .int .u8 (bif Nat.beq i 31 then (p 31).tmod 128 else p i)
def xD (p : Nat → Int) : Nat → Int := rdD (wd (PLs p))
def finD (k p : Nat → Int) : Nat → Int := (ladD (kk k) (xx (xD p)) 255).1
def ivD (k p : Nat → Int) : Nat → Int := invD (wd (cellsI .i64 16 (hi16 (finD k p))))
def resD (k p : Nat → Int) : Nat → Int := mulD (Wd (finD k p)) (wd (cellsI .i64 16 (ivD k p)))

noncomputable def L14 (M : Mem) : List Sum := [readSum 22, pairSum 255, invSum 30, opDSum 21 mulD, writeSum 20]
theorem L14_sound (M : Mem) : ∀ s ∈ L14 M, s.SoundC Try.prog M := consC (read22 M) (consC (pair29 M 255 (Nat.le_refl _)) (consC (inv30 M) (consC (mul21 M) (consC (writeS20 M) nilC))))

def sdPins (k p : Nat → Int) : Pins := [(rngB (PLs p), true), (decide ((0 : Int) = 255 - ((255 : Nat) : Int)), true), (rngB (cellsI .u8 32 k), true), (leB 65535 (cellsI .i64 16 (xD p)), true),
  (leB 65535 (cellsI .i64 16 (hi16 (finD k p))), true), (leB 65535 (cellsI .i64 16 (finD k p)) && leB 65535 (cellsI .i64 16 (ivD k p)), true), (leB 65535 (cellsI .i64 16 (resD k p)), true)]

set_option maxRecDepth 100000 in
theorem r14 (M : Mem) (k p : Nat → Int) (m : Int) : evFC Try.prog M (L14 M) [] 500 Try.f14 [.agg ⟨cellsI .u8 32 k⟩, .agg ⟨cellsI .u8 32 p⟩, .int .i64 m] [] []
   = some ((.tuple ⟨[.agg ⟨bytesN (val D16 (wd (cellsI .i64 16 (resD k p))) 16 % pF)⟩, .int .i64 (IntKind.i64.wrap (m + 1))]⟩, [], []), sdPins k p) := by kernel_rfl

theorem PLs_eq {p : Nat → Int} (hp : ∀ i, IntKind.u8.has (p i)) : PLs p = cellsI .u8 32 (clP p) := cellsI_congr fun i _ => by
  unfold clP
  rw [Int.tmod_eq_emod_of_nonneg (has_u8 (hp 31)).1]

theorem sm14 (M : Mem) : (smSum 14).SoundC Try.prog M := smSum_sound Try.func14 (by kernel_rfl) (by kernel_rfl) fun k p m hk hp => by
  have ePL := PLs_eq hp
  have hP : rngB (PLs p) = true := by rw [ePL]; exact rngB_cellsI (clP_range hp)
  have hx : Dg 65536 16 (xD p) := rdD_dg (rngB_wd hP) 16
  obtain ⟨g1, g2⟩ := ladD_dg (k := kk k) (dgw hx) 255
  have hf : DgP (finD k p) := g1
  have hiv : Dg 65536 16 (ivD k p) := invD_bd (dgw hf.2)
  have hres : Dg 65536 16 (resD k p) := mulD_dd (dgw hf.1) (dgw hiv)
  have h0 := acalls_of_evFC (L14_sound M) mix Try.func14 (r14 M k p m) (by
    refine held_cons hP (held_cons rfl (held_cons (rngB_cellsI hk) (held_cons (le_dg hx) (held_cons (le_dg hf.2) (held_cons ?_ (held_one (le_dg hres)))))))
    rw [le_dg hf.1, le_dg hiv]; rfl)
  have hl := (ladD_eqp (k := kk k) (x := xx (xD p)) (dgw hx) 255).1
  have eu : val D16 (xx (xD p)) 16 = uN p := by
    unfold xx xD uN
    rw [wd_val, rdD_val, ePL, wd_val, clP_val hp]
  have eb : lad (bitF (kk k)) (uN p) 255 = lad (bitF k) (uN p) 255 := lad_congr (fun n hn => by
    unfold bitF
    have : kk k (n / 8) = k (n / 8) := by unfold kk; rw [wd_cellsI (by omega)]
    rw [this]) 255
  rw [eu, eb] at hl
  have hv : val D16 (wd (cellsI .i64 16 (resD k p))) 16 % pF = smF k (uN p) % pF := by
    rw [wd_val]
    refine Eqp.mod ?_
    unfold resD smF
    refine (mulD_eqp _ _).trans ?_
    unfold Wd
    rw [wd_val, wd_val]
    refine Eqp.mul hl.1 ((invD_eqp _).trans (pwr_eqp ?_ 255))
    rw [wd_val]
    exact hl.2
  rw [hv] at h0
  exact h0

end Go.Proofs.Ytjdckgnpocnifaa
