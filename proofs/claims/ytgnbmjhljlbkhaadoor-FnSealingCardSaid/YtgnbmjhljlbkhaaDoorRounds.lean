/- The rounds: what the program's and the specification's give.
   Conditions: none. -/
import Derived.Test.YtgnbmjhljlbkhaaDoorQuarter
open Go.Ab Go.Num
set_option linter.unusedVariables false
set_option linter.unusedSimpArgs false
namespace Go.Proofs.YtgnbmjhljlbkhaaDoor

noncomputable def I57 (M : Mem) : Sum := inl Tryd.prog M (fns []) 1000 57 Tryd.f57
theorem I57_s (M : Mem) : (I57 M).Sound Tryd.prog M := inl_sound fns_nil mix Tryd.func57 (by kernel_rfl) (by kernel_rfl)

set_option maxRecDepth 100000 in
theorem r46 (M : Mem) (x : Nat → Int) (g : Bool) (e : Nat) : evFC Tryd.prog M [qSum 59] [] 2000 Tryd.f46 [.pointer (some ⟨0, 0, some 16⟩)] [⟨cellsI .u32 16 x, g, e, true⟩] []
   = some ((.tuple ⟨[]⟩, [⟨roundsC (cellsI .u32 16 x), g, e, true⟩], []), []) := by kernel_rfl

set_option maxRecDepth 100000 in
theorem r42 (M : Mem) (x : Nat → Int) : evFC Tryd.prog M [qSumV 58, I57 M] [] 2000 Tryd.f42 [.agg ⟨cellsI .u32 16 x⟩] [] []
   = some ((.agg ⟨roundsC (cellsI .u32 16 x)⟩, [], []), []) := by kernel_rfl

end Go.Proofs.YtgnbmjhljlbkhaaDoor
