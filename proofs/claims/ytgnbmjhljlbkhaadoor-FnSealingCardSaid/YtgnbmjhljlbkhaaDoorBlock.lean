/- One block of the stream and a derived key: what the program's functions and the specification's give.
   Conditions: the variable chaWords is as the program's text lays it. -/
import Derived.Test.YtgnbmjhljlbkhaaDoorGA
import Derived.Test.YtgnbmjhljlbkhaaDoorRounds
open Go.Ab Go.Num
set_option linter.unusedVariables false
set_option linter.unusedSimpArgs false
namespace Go.Proofs.YtgnbmjhljlbkhaaDoor

theorem rounds46 (M : Mem) : (roundsSum 46).SoundC Tryd.prog M := roundsSum_sound Tryd.func46 (by kernel_rfl) (by kernel_rfl) fun x g e =>
  acalls_of_evFC (consC (q59 M) nilC) mix Tryd.func46 (r46 M x g e) held_nil
theorem rounds42 (M : Mem) : (roundsSumV 42).SoundC Tryd.prog M := roundsSumV_sound Tryd.func42 (by kernel_rfl) (by kernel_rfl) fun x =>
  acalls_of_evFC (consC (q58 M) (consC (I57_s M).c nilC)) mix Tryd.func42 (r42 M x) held_nil

/-- The variable chaWords. -/
def tblCha (b off : Nat) : Option Value :=
  bif Nat.beq b 0 then (match off with
    | 0 => some (.int .u32 1634760805)
    | 1 => some (.int .u32 857760878)
    | 2 => some (.int .u32 2036477234)
    | 3 => some (.int .u32 1797285236)
    | _ => none) else none

set_option maxRecDepth 100000 in
theorem r45 (M : Mem) (f s c e : Nat) (cells : List Value) (g : Bool) : evFU Tryd.prog M (ovStd Tryd.prog M) [17, 24, 31, 38] [] [] [] 200 Tryd.f45 [.slice (some ⟨0, f, some s⟩) 4 c] [⟨cells, g, e, true⟩] []
   = some ((.int .u32 (wordI (wd cells f) (wd cells (f + 1)) (wd cells (f + 2)) (wd cells (f + 3))), [⟨cells, g, e, true⟩], []),
      [(ldB .u8 ⟨cells, g, e, true⟩ s (f + 3), true), (ldB .u8 ⟨cells, g, e, true⟩ s (f + 2), true), (ldB .u8 ⟨cells, g, e, true⟩ s (f + 1), true), (ldB .u8 ⟨cells, g, e, true⟩ s f, true)]) := by kernel_rfl
theorem word45 (M : Mem) : (wordSum 45).SoundC Tryd.prog M := wordSum_sound Tryd.func45 (by kernel_rfl) (by kernel_rfl) fun f1 s c e cells g hp =>
  acalls_of_evFU (ovStd_ok _ _) nilC mix Tryd.func45 (hooksOk_nil _) (r45 M f1 s c e cells g) hp
noncomputable def I41 (M : Mem) : Sum := inl Tryd.prog M (fns []) 1000 41 Tryd.f41
theorem I41_s (M : Mem) : (I41 M).Sound Tryd.prog M := inl_sound fns_nil mix Tryd.func41 (by kernel_rfl) (by kernel_rfl)
noncomputable def I43 (M : Mem) : Sum := inl Tryd.prog M (fns []) 1000 43 Tryd.f43
theorem I43_s (M : Mem) : (I43 M).Sound Tryd.prog M := inl_sound fns_nil mix Tryd.func43 (by kernel_rfl) (by kernel_rfl)
noncomputable def I47 (M : Mem) : Sum := inl Tryd.prog M (fns []) 1000 47 Tryd.f47
theorem I47_s (M : Mem) : (I47 M).Sound Tryd.prog M := inl_sound fns_nil mix Tryd.func47 (by kernel_rfl) (by kernel_rfl)
noncomputable def I44 (M : Mem) : Sum := inlC Tryd.prog M [wordSum 45] [] 1000 44 Tryd.f44 []
theorem I44_s (M : Mem) : (I44 M).SoundC Tryd.prog M := inlC_sound (consC (word45 M) nilC) mix Tryd.func44 (by kernel_rfl) (by kernel_rfl)
noncomputable def I40 (M : Mem) : Sum := inl Tryd.prog M (fns [I41 M]) 1000 40 Tryd.f40
theorem I40_s (M : Mem) : (I40 M).Sound Tryd.prog M := inl_sound (fns_sound (fns_cons (I41_s M) (by simp))) mix Tryd.func40 (by kernel_rfl) (by kernel_rfl)

set_option maxRecDepth 100000 in
theorem r13 (W : World) (k : Nat → Int) (c : Int) (n : Nat → Int) : evFC Tryd.prog (memL tblCha W) [I44 (memL tblCha W), wordSum 45, roundsSum 46, I47 (memL tblCha W)] [] 1000 Tryd.f13 [.agg ⟨cellsI .u8 32 k⟩, .int .u32 c, .agg ⟨cellsI .u8 12 n⟩] [] []
   = some ((.agg ⟨blockW byteL (bStart wordI k c n)⟩, [], []), []) := by kernel_rfl

set_option maxRecDepth 100000 in
theorem r10 (M : Mem) (k : Nat → Int) (c : Int) (n : Nat → Int) : evFC Tryd.prog M [I40 M, I41 M, roundsSumV 42, I43 M] [] 1000 Tryd.f10 [.agg ⟨cellsI .u8 32 k⟩, .int .u32 c, .agg ⟨cellsI .u8 12 n⟩] [] []
   = some ((.agg ⟨blockW byteS (bStart wordS k c n)⟩, [], []), []) := by kernel_rfl

end Go.Proofs.YtgnbmjhljlbkhaaDoor
