/- A derived key, and the contracts of the functions that give a block and a derived key.
   Conditions: the variable chaWords is as the program's text lays it. -/
import Derived.Test.YtgnbmjhljlbkhaaDoorGA
import Derived.Test.YtgnbmjhljlbkhaaDoorLaid
open Go.Ab Go.Num
set_option linter.unusedVariables false
set_option linter.unusedSimpArgs false
namespace Go.Proofs.YtgnbmjhljlbkhaaDoor

noncomputable def I48 (M : Mem) : Sum := inl Tryd.prog M (fns []) 1000 48 Tryd.f48
theorem I48_s (M : Mem) : (I48 M).Sound Tryd.prog M := inl_sound fns_nil mix Tryd.func48 (by kernel_rfl) (by kernel_rfl)

set_option maxRecDepth 100000 in
theorem r17 (W : World) (k n : Nat → Int) : evFC Tryd.prog (memL tblCha W) [I44 (memL tblCha W), wordSum 45, roundsSum 46, I47 (memL tblCha W)] [] 1000 Tryd.f17 [.agg ⟨cellsI .u8 32 k⟩, .agg ⟨cellsI .u8 16 n⟩] [] []
   = some ((.agg ⟨keyW byteL (hStart wordI k n)⟩, [], []), []) := by kernel_rfl

set_option maxRecDepth 100000 in
theorem r15 (M : Mem) (k n : Nat → Int) : evFC Tryd.prog M [I40 M, I41 M, roundsSumV 42, I43 M, I48 M] [] 1000 Tryd.f15 [.agg ⟨cellsI .u8 32 k⟩, .agg ⟨cellsI .u8 16 n⟩] [] []
   = some ((.agg ⟨keyW byteS (hStart wordS k n)⟩, [], []), []) := by kernel_rfl

theorem cha13 (W : World) : (chaSum 13).SoundC Tryd.prog (memL tblCha W) := chaSum_sound Tryd.func13 (by kernel_rfl) (by kernel_rfl) fun k c n hk hn => by
  have := acalls_of_evFC (consC (I44_s _) (consC (word45 _) (consC (rounds46 _) (consC (I47_s _).c nilC)))) mix Tryd.func13 (r13 W k c n) held_nil
  rw [(bStart_eq hk hn c).1] at this
  exact this
theorem cha10 (M : Mem) : (chaSum 10).SoundC Tryd.prog M := chaSum_sound Tryd.func10 (by kernel_rfl) (by kernel_rfl) fun k c n hk hn => by
  have := acalls_of_evFC (consC (I40_s _).c (consC (I41_s _).c (consC (rounds42 _) (consC (I43_s _).c nilC)))) mix Tryd.func10 (r10 M k c n) held_nil
  rw [(bStart_eq hk hn c).2, blockW_eq] at this
  exact this
theorem hcha17 (W : World) : (hchaSum 17).SoundC Tryd.prog (memL tblCha W) := hchaSum_sound Tryd.func17 (by kernel_rfl) (by kernel_rfl) fun k n hk hn => by
  have := acalls_of_evFC (consC (I44_s _) (consC (word45 _) (consC (rounds46 _) (consC (I47_s _).c nilC)))) mix Tryd.func17 (r17 W k n) held_nil
  rw [(hStart_eq hk hn).1] at this
  exact this
theorem hcha15 (M : Mem) : (hchaSum 15).SoundC Tryd.prog M := hchaSum_sound Tryd.func15 (by kernel_rfl) (by kernel_rfl) fun k n hk hn => by
  have := acalls_of_evFC (consC (I40_s _).c (consC (I41_s _).c (consC (rounds42 _) (consC (I43_s _).c (consC (I48_s _).c nilC))))) mix Tryd.func15 (r15 M k n) held_nil
  have w : ∀ p q r s, IntKind.u32.has (word (n p) (n q) (n r) (n s)) := fun p q r s => word_range (hn _) (hn _) (hn _) (hn _)
  rw [(hStart_eq hk hn).2] at this
  have e : keyW byteS (hStart word k n) = keyF k n := keyW_eq (start_range hk (w _ _ _ _) (w _ _ _ _) (w _ _ _ _) (w _ _ _ _))
  rw [e] at this
  exact this

set_option maxRecDepth 100000 in
theorem eq64 (M : Mem) : (eqSum 14 64).Sound Tryd.prog M := eqSum_sound mix Tryd.func14 (by kernel_rfl) (by kernel_rfl) (sym := [16]) (fuel := 1000) (fun x y => by kernel_rfl)
set_option maxRecDepth 100000 in
theorem eq32 (M : Mem) : (eqSum 18 32).Sound Tryd.prog M := eqSum_sound mix Tryd.func18 (by kernel_rfl) (by kernel_rfl) (sym := [16]) (fuel := 1000) (fun x y => by kernel_rfl)

noncomputable def I11 (M : Mem) : Sum := inl Tryd.prog M (fns []) 1000 11 Tryd.f11
theorem I11_s (M : Mem) : (I11 M).Sound Tryd.prog M := inl_sound fns_nil mix Tryd.func11 (by kernel_rfl) (by kernel_rfl)
noncomputable def I12 (M : Mem) : Sum := inl Tryd.prog M (fns []) 1000 12 Tryd.f12
theorem I12_s (M : Mem) : (I12 M).Sound Tryd.prog M := inl_sound fns_nil mix Tryd.func12 (by kernel_rfl) (by kernel_rfl)
noncomputable def I16 (M : Mem) : Sum := inl Tryd.prog M (fns []) 1000 16 Tryd.f16
theorem I16_s (M : Mem) : (I16 M).Sound Tryd.prog M := inl_sound fns_nil mix Tryd.func16 (by kernel_rfl) (by kernel_rfl)

end Go.Proofs.YtgnbmjhljlbkhaaDoor
