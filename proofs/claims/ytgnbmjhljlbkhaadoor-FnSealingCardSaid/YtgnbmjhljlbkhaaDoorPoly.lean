/- The program's one-time authenticator: adding, multiplying, one piece.
   Conditions: the words are in bounds. -/
import Derived.Test.YtgnbmjhljlbkhaaDoorGA
import Derived.Test.YtgnbmjhljlbkhaaDoorBase
open Go.Ab Go.Num
set_option linter.unusedVariables false
set_option linter.unusedSimpArgs false
namespace Go.Proofs.YtgnbmjhljlbkhaaDoor

theorem mPoly (M : Mem) (x y : Int) : evFT Tryd.prog M (fns []) [] 200 Tryd.f77 [.int .u64 x, .int .u64 y] [] = some (.tuple ⟨[.int .u64 (mulHi x y), .int .u64 (IntKind.u64.wrap (x * y))]⟩, [], []) := by kernel_rfl
theorem addS (M : Mem) : (add64Sum 75).SoundC Tryd.prog M := add64Sum_sound Tryd.func75 (by kernel_rfl) (by kernel_rfl) (by kernel_rfl) (by rfl)
theorem mulS (M : Mem) : (mul64Sum 77).SoundC Tryd.prog M := mul64Sum_sound Tryd.func77 (by kernel_rfl) (by kernel_rfl) fun x y => acalls_of_evFT fns_nil mix Tryd.func77 (mPoly M x y)

theorem rPplus (M : Mem) (r0 r1 h0 h1 h2 low high : Int) (g : Bool) (e : Nat) : evFC Tryd.prog M [add64Sum 75] [] 300 Tryd.f78 [.pointer (some ⟨0, 0, some 5⟩), .int .u64 low, .int .u64 high] [⟨[.int .u64 r0, .int .u64 r1, .int .u64 h0, .int .u64 h1, .int .u64 h2], g, e, true⟩] []
   = some ((.tuple ⟨[]⟩, [⟨plusRaw r0 r1 h0 h1 h2 low high, g, e, true⟩], []), plusPinsP h0 h1 low high) := by kernel_rfl
theorem pplusS (M : Mem) : (pplusSum 78).SoundC Tryd.prog M := pplusSum_sound Tryd.func78 (by kernel_rfl) (by kernel_rfl) fun r0 r1 h0 h1 h2 low high g e hp =>
  acalls_of_evFC (consC (addS M) nilC) mix Tryd.func78 (rPplus M r0 r1 h0 h1 h2 low high g e) hp

set_option maxRecDepth 100000 in
theorem rPmul (M : Mem) (r0 r1 h0 h1 h2 : Int) (g : Bool) (e : Nat) : evFC Tryd.prog M [add64Sum 75, mul64Sum 77, pplusSum 78] [] 500 Tryd.f76 [.pointer (some ⟨0, 0, some 5⟩)] [⟨[.int .u64 r0, .int .u64 r1, .int .u64 h0, .int .u64 h1, .int .u64 h2], g, e, true⟩] []
   = some ((.tuple ⟨[]⟩, [⟨mulRaw r0 r1 (m4 r0 r1 h0 h1 h2), g, e, true⟩], []), m4Pins r0 r1 h0 h1 h2 ++ mulRawPins (m4 r0 r1 h0 h1 h2)) := by kernel_rfl
theorem pmulS (M : Mem) : (pmulSum 76).SoundC Tryd.prog M := pmulSum_sound Tryd.func76 (by kernel_rfl) (by kernel_rfl) fun r0 r1 h0 h1 h2 g e hp =>
  acalls_of_evFC (consC (addS M) (consC (mulS M) (consC (pplusS M) nilC))) mix Tryd.func76 (rPmul M r0 r1 h0 h1 h2 g e) hp

end Go.Proofs.YtgnbmjhljlbkhaaDoor
