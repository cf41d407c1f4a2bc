/- Turning, quarters and rounds: what the program's functions and the specification's give.
   Conditions: none. -/
import Derived.Test.YtgnbmjhljlbkhaaDoorGA
import Derived.Test.YtgnbmjhljlbkhaaDoorBase
open Go.Ab Go.Num
set_option linter.unusedVariables false
set_option linter.unusedSimpArgs false
namespace Go.Proofs.YtgnbmjhljlbkhaaDoor

theorem r68_16 (M : Mem) (x : Int) : evFT Tryd.prog M (fns []) [] 200 Tryd.f68 [.int .u32 x, .int .i64 16] [] = some (.int .u32 (bits .or .u32 (IntKind.wrap .u32 (x * 2 ^ 16)) (x.fdiv (2 ^ (32 - 16)))), [], []) := by kernel_rfl
theorem r68_12 (M : Mem) (x : Int) : evFT Tryd.prog M (fns []) [] 200 Tryd.f68 [.int .u32 x, .int .i64 12] [] = some (.int .u32 (bits .or .u32 (IntKind.wrap .u32 (x * 2 ^ 12)) (x.fdiv (2 ^ (32 - 12)))), [], []) := by kernel_rfl
theorem r68_8 (M : Mem) (x : Int) : evFT Tryd.prog M (fns []) [] 200 Tryd.f68 [.int .u32 x, .int .i64 8] [] = some (.int .u32 (bits .or .u32 (IntKind.wrap .u32 (x * 2 ^ 8)) (x.fdiv (2 ^ (32 - 8)))), [], []) := by kernel_rfl
theorem r68_7 (M : Mem) (x : Int) : evFT Tryd.prog M (fns []) [] 200 Tryd.f68 [.int .u32 x, .int .i64 7] [] = some (.int .u32 (bits .or .u32 (IntKind.wrap .u32 (x * 2 ^ 7)) (x.fdiv (2 ^ (32 - 7)))), [], []) := by kernel_rfl

theorem rot68 (M : Mem) : (rotSum 68).SoundC Tryd.prog M := rotSum_sound Tryd.func68 (by kernel_rfl) (by kernel_rfl) fun x hx => by
  have a := acalls_of_evFT fns_nil mix Tryd.func68 (r68_16 M x)
  have b := acalls_of_evFT fns_nil mix Tryd.func68 (r68_12 M x)
  have c := acalls_of_evFT fns_nil mix Tryd.func68 (r68_8 M x)
  have d := acalls_of_evFT fns_nil mix Tryd.func68 (r68_7 M x)
  rw [rotL_eq (by simp [Turns]) hx] at a b c d
  exact ⟨a, b, c, d⟩

noncomputable def I74 (M : Mem) : Sum := inl Tryd.prog M (fns []) 1000 74 Tryd.f74
theorem I74_s (M : Mem) : (I74 M).Sound Tryd.prog M := inl_sound fns_nil mix Tryd.func74 (by kernel_rfl) (by kernel_rfl)

theorem r67_16 (M : Mem) (x : Int) : evFT Tryd.prog M (fns [I74 M]) [] 200 Tryd.f67 [.int .u32 x, .int .i64 16] [] = some (.int .u32 (IntKind.u32.wrap (IntKind.u32.wrap (x.tdiv (IntKind.u32.wrap (1 * 2 ^ (32 - 16)))) + IntKind.u32.wrap (x.tmod (IntKind.u32.wrap (1 * 2 ^ (32 - 16))) * IntKind.u32.wrap (1 * 2 ^ 16)))), [], []) := by kernel_rfl
theorem r67_12 (M : Mem) (x : Int) : evFT Tryd.prog M (fns [I74 M]) [] 200 Tryd.f67 [.int .u32 x, .int .i64 12] [] = some (.int .u32 (IntKind.u32.wrap (IntKind.u32.wrap (x.tdiv (IntKind.u32.wrap (1 * 2 ^ (32 - 12)))) + IntKind.u32.wrap (x.tmod (IntKind.u32.wrap (1 * 2 ^ (32 - 12))) * IntKind.u32.wrap (1 * 2 ^ 12)))), [], []) := by kernel_rfl
theorem r67_8 (M : Mem) (x : Int) : evFT Tryd.prog M (fns [I74 M]) [] 200 Tryd.f67 [.int .u32 x, .int .i64 8] [] = some (.int .u32 (IntKind.u32.wrap (IntKind.u32.wrap (x.tdiv (IntKind.u32.wrap (1 * 2 ^ (32 - 8)))) + IntKind.u32.wrap (x.tmod (IntKind.u32.wrap (1 * 2 ^ (32 - 8))) * IntKind.u32.wrap (1 * 2 ^ 8)))), [], []) := by kernel_rfl
theorem r67_7 (M : Mem) (x : Int) : evFT Tryd.prog M (fns [I74 M]) [] 200 Tryd.f67 [.int .u32 x, .int .i64 7] [] = some (.int .u32 (IntKind.u32.wrap (IntKind.u32.wrap (x.tdiv (IntKind.u32.wrap (1 * 2 ^ (32 - 7)))) + IntKind.u32.wrap (x.tmod (IntKind.u32.wrap (1 * 2 ^ (32 - 7))) * IntKind.u32.wrap (1 * 2 ^ 7)))), [], []) := by kernel_rfl

theorem K74_s (M : Mem) : (fns [I74 M]).Sound Tryd.prog M := fns_sound (fns_cons (I74_s M) (by simp))
theorem rot67 (M : Mem) : (rotSum 67).SoundC Tryd.prog M := rotSum_sound Tryd.func67 (by kernel_rfl) (by kernel_rfl) fun x hx => by
  have a := acalls_of_evFT (K74_s M) mix Tryd.func67 (r67_16 M x)
  have b := acalls_of_evFT (K74_s M) mix Tryd.func67 (r67_12 M x)
  have c := acalls_of_evFT (K74_s M) mix Tryd.func67 (r67_8 M x)
  have d := acalls_of_evFT (K74_s M) mix Tryd.func67 (r67_7 M x)
  rw [rotR_eq (by simp [Turns]) hx] at a b c d
  exact ⟨a, b, c, d⟩

/-- What the turns of a quarter ask for. -/
def qPins (x : Nat → Int) (a b c d : Nat) : Pins :=
  let x1 := upd x a (add32 (x a) (x b))
  let x2 := upd x1 d (rot32 16 (xor32 (x1 d) (x1 a)))
  let x3 := upd x2 c (add32 (x2 c) (x2 d))
  let x4 := upd x3 b (rot32 12 (xor32 (x3 b) (x3 c)))
  let x5 := upd x4 a (add32 (x4 a) (x4 b))
  let x6 := upd x5 d (rot32 8 (xor32 (x5 d) (x5 a)))
  let x7 := upd x6 c (add32 (x6 c) (x6 d))
  [(hasB .u32 (xor32 (x1 d) (x1 a)), true), (hasB .u32 (xor32 (x3 b) (x3 c)), true), (hasB .u32 (xor32 (x5 d) (x5 a)), true), (hasB .u32 (xor32 (x7 b) (x7 c)), true)]

theorem qPins_held (x : Nat → Int) (a b c d : Nat) : Held (qPins x a b c d) :=
  held_cons (hasB_iff.2 (xor32_range _ _)) (held_cons (hasB_iff.2 (xor32_range _ _)) (held_cons (hasB_iff.2 (xor32_range _ _)) (held_one (hasB_iff.2 (xor32_range _ _)))))

set_option maxRecDepth 100000 in
theorem q59_0_4 (M : Mem) (x : Nat → Int) (g : Bool) (e : Nat) : evFC Tryd.prog M [rotSum 68] [] 200 Tryd.f59 [.pointer (some ⟨0, 0, some 16⟩), .int .i64 0, .int .i64 4, .int .i64 8, .int .i64 12] [⟨cellsI .u32 16 x, g, e, true⟩] []
   = some ((.tuple ⟨[]⟩, [⟨cellsI .u32 16 (qF x 0 4 8 12), g, e, true⟩], []), qPins x 0 4 8 12) := by kernel_rfl
set_option maxRecDepth 100000 in
theorem q58_0_4 (M : Mem) (x : Nat → Int) : evFC Tryd.prog M [rotSum 67] [] 200 Tryd.f58 [.agg ⟨cellsI .u32 16 x⟩, .int .i64 0, .int .i64 4, .int .i64 8, .int .i64 12] [] []
   = some ((.agg ⟨cellsI .u32 16 (qF x 0 4 8 12)⟩, [], []), qPins x 0 4 8 12) := by kernel_rfl
set_option maxRecDepth 100000 in
theorem q59_1_5 (M : Mem) (x : Nat → Int) (g : Bool) (e : Nat) : evFC Tryd.prog M [rotSum 68] [] 200 Tryd.f59 [.pointer (some ⟨0, 0, some 16⟩), .int .i64 1, .int .i64 5, .int .i64 9, .int .i64 13] [⟨cellsI .u32 16 x, g, e, true⟩] []
   = some ((.tuple ⟨[]⟩, [⟨cellsI .u32 16 (qF x 1 5 9 13), g, e, true⟩], []), qPins x 1 5 9 13) := by kernel_rfl
set_option maxRecDepth 100000 in
theorem q58_1_5 (M : Mem) (x : Nat → Int) : evFC Tryd.prog M [rotSum 67] [] 200 Tryd.f58 [.agg ⟨cellsI .u32 16 x⟩, .int .i64 1, .int .i64 5, .int .i64 9, .int .i64 13] [] []
   = some ((.agg ⟨cellsI .u32 16 (qF x 1 5 9 13)⟩, [], []), qPins x 1 5 9 13) := by kernel_rfl
set_option maxRecDepth 100000 in
theorem q59_2_6 (M : Mem) (x : Nat → Int) (g : Bool) (e : Nat) : evFC Tryd.prog M [rotSum 68] [] 200 Tryd.f59 [.pointer (some ⟨0, 0, some 16⟩), .int .i64 2, .int .i64 6, .int .i64 10, .int .i64 14] [⟨cellsI .u32 16 x, g, e, true⟩] []
   = some ((.tuple ⟨[]⟩, [⟨cellsI .u32 16 (qF x 2 6 10 14), g, e, true⟩], []), qPins x 2 6 10 14) := by kernel_rfl
set_option maxRecDepth 100000 in
theorem q58_2_6 (M : Mem) (x : Nat → Int) : evFC Tryd.prog M [rotSum 67] [] 200 Tryd.f58 [.agg ⟨cellsI .u32 16 x⟩, .int .i64 2, .int .i64 6, .int .i64 10, .int .i64 14] [] []
   = some ((.agg ⟨cellsI .u32 16 (qF x 2 6 10 14)⟩, [], []), qPins x 2 6 10 14) := by kernel_rfl
set_option maxRecDepth 100000 in
theorem q59_3_7 (M : Mem) (x : Nat → Int) (g : Bool) (e : Nat) : evFC Tryd.prog M [rotSum 68] [] 200 Tryd.f59 [.pointer (some ⟨0, 0, some 16⟩), .int .i64 3, .int .i64 7, .int .i64 11, .int .i64 15] [⟨cellsI .u32 16 x, g, e, true⟩] []
   = some ((.tuple ⟨[]⟩, [⟨cellsI .u32 16 (qF x 3 7 11 15), g, e, true⟩], []), qPins x 3 7 11 15) := by kernel_rfl
set_option maxRecDepth 100000 in
theorem q58_3_7 (M : Mem) (x : Nat → Int) : evFC Tryd.prog M [rotSum 67] [] 200 Tryd.f58 [.agg ⟨cellsI .u32 16 x⟩, .int .i64 3, .int .i64 7, .int .i64 11, .int .i64 15] [] []
   = some ((.agg ⟨cellsI .u32 16 (qF x 3 7 11 15)⟩, [], []), qPins x 3 7 11 15) := by kernel_rfl
set_option maxRecDepth 100000 in
theorem q59_0_5 (M : Mem) (x : Nat → Int) (g : Bool) (e : Nat) : evFC Tryd.prog M [rotSum 68] [] 200 Tryd.f59 [.pointer (some ⟨0, 0, some 16⟩), .int .i64 0, .int .i64 5, .int .i64 10, .int .i64 15] [⟨cellsI .u32 16 x, g, e, true⟩] []
   = some ((.tuple ⟨[]⟩, [⟨cellsI .u32 16 (qF x 0 5 10 15), g, e, true⟩], []), qPins x 0 5 10 15) := by kernel_rfl
set_option maxRecDepth 100000 in
theorem q58_0_5 (M : Mem) (x : Nat → Int) : evFC Tryd.prog M [rotSum 67] [] 200 Tryd.f58 [.agg ⟨cellsI .u32 16 x⟩, .int .i64 0, .int .i64 5, .int .i64 10, .int .i64 15] [] []
   = some ((.agg ⟨cellsI .u32 16 (qF x 0 5 10 15)⟩, [], []), qPins x 0 5 10 15) := by kernel_rfl
set_option maxRecDepth 100000 in
theorem q59_1_6 (M : Mem) (x : Nat → Int) (g : Bool) (e : Nat) : evFC Tryd.prog M [rotSum 68] [] 200 Tryd.f59 [.pointer (some ⟨0, 0, some 16⟩), .int .i64 1, .int .i64 6, .int .i64 11, .int .i64 12] [⟨cellsI .u32 16 x, g, e, true⟩] []
   = some ((.tuple ⟨[]⟩, [⟨cellsI .u32 16 (qF x 1 6 11 12), g, e, true⟩], []), qPins x 1 6 11 12) := by kernel_rfl
set_option maxRecDepth 100000 in
theorem q58_1_6 (M : Mem) (x : Nat → Int) : evFC Tryd.prog M [rotSum 67] [] 200 Tryd.f58 [.agg ⟨cellsI .u32 16 x⟩, .int .i64 1, .int .i64 6, .int .i64 11, .int .i64 12] [] []
   = some ((.agg ⟨cellsI .u32 16 (qF x 1 6 11 12)⟩, [], []), qPins x 1 6 11 12) := by kernel_rfl
set_option maxRecDepth 100000 in
theorem q59_2_7 (M : Mem) (x : Nat → Int) (g : Bool) (e : Nat) : evFC Tryd.prog M [rotSum 68] [] 200 Tryd.f59 [.pointer (some ⟨0, 0, some 16⟩), .int .i64 2, .int .i64 7, .int .i64 8, .int .i64 13] [⟨cellsI .u32 16 x, g, e, true⟩] []
   = some ((.tuple ⟨[]⟩, [⟨cellsI .u32 16 (qF x 2 7 8 13), g, e, true⟩], []), qPins x 2 7 8 13) := by kernel_rfl
set_option maxRecDepth 100000 in
theorem q58_2_7 (M : Mem) (x : Nat → Int) : evFC Tryd.prog M [rotSum 67] [] 200 Tryd.f58 [.agg ⟨cellsI .u32 16 x⟩, .int .i64 2, .int .i64 7, .int .i64 8, .int .i64 13] [] []
   = some ((.agg ⟨cellsI .u32 16 (qF x 2 7 8 13)⟩, [], []), qPins x 2 7 8 13) := by kernel_rfl
set_option maxRecDepth 100000 in
theorem q59_3_4 (M : Mem) (x : Nat → Int) (g : Bool) (e : Nat) : evFC Tryd.prog M [rotSum 68] [] 200 Tryd.f59 [.pointer (some ⟨0, 0, some 16⟩), .int .i64 3, .int .i64 4, .int .i64 9, .int .i64 14] [⟨cellsI .u32 16 x, g, e, true⟩] []
   = some ((.tuple ⟨[]⟩, [⟨cellsI .u32 16 (qF x 3 4 9 14), g, e, true⟩], []), qPins x 3 4 9 14) := by kernel_rfl
set_option maxRecDepth 100000 in
theorem q58_3_4 (M : Mem) (x : Nat → Int) : evFC Tryd.prog M [rotSum 67] [] 200 Tryd.f58 [.agg ⟨cellsI .u32 16 x⟩, .int .i64 3, .int .i64 4, .int .i64 9, .int .i64 14] [] []
   = some ((.agg ⟨cellsI .u32 16 (qF x 3 4 9 14)⟩, [], []), qPins x 3 4 9 14) := by kernel_rfl

theorem q59 (M : Mem) : (qSum 59).SoundC Tryd.prog M := qSum_sound Tryd.func59 (by kernel_rfl) (by kernel_rfl) fun x g e q hq => by
  simp only [quads, List.mem_cons, List.not_mem_nil, or_false] at hq
  rcases hq with rfl | rfl | rfl | rfl | rfl | rfl | rfl | rfl
  · exact acalls_of_evFC (consC (rot68 M) nilC) mix Tryd.func59 (q59_0_4 M x g e) (qPins_held _ _ _ _ _)
  · exact acalls_of_evFC (consC (rot68 M) nilC) mix Tryd.func59 (q59_1_5 M x g e) (qPins_held _ _ _ _ _)
  · exact acalls_of_evFC (consC (rot68 M) nilC) mix Tryd.func59 (q59_2_6 M x g e) (qPins_held _ _ _ _ _)
  · exact acalls_of_evFC (consC (rot68 M) nilC) mix Tryd.func59 (q59_3_7 M x g e) (qPins_held _ _ _ _ _)
  · exact acalls_of_evFC (consC (rot68 M) nilC) mix Tryd.func59 (q59_0_5 M x g e) (qPins_held _ _ _ _ _)
  · exact acalls_of_evFC (consC (rot68 M) nilC) mix Tryd.func59 (q59_1_6 M x g e) (qPins_held _ _ _ _ _)
  · exact acalls_of_evFC (consC (rot68 M) nilC) mix Tryd.func59 (q59_2_7 M x g e) (qPins_held _ _ _ _ _)
  · exact acalls_of_evFC (consC (rot68 M) nilC) mix Tryd.func59 (q59_3_4 M x g e) (qPins_held _ _ _ _ _)

theorem q58 (M : Mem) : (qSumV 58).SoundC Tryd.prog M := qSumV_sound Tryd.func58 (by kernel_rfl) (by kernel_rfl) fun x q hq => by
  simp only [quads, List.mem_cons, List.not_mem_nil, or_false] at hq
  rcases hq with rfl | rfl | rfl | rfl | rfl | rfl | rfl | rfl
  · exact acalls_of_evFC (consC (rot67 M) nilC) mix Tryd.func58 (q58_0_4 M x) (qPins_held _ _ _ _ _)
  · exact acalls_of_evFC (consC (rot67 M) nilC) mix Tryd.func58 (q58_1_5 M x) (qPins_held _ _ _ _ _)
  · exact acalls_of_evFC (consC (rot67 M) nilC) mix Tryd.func58 (q58_2_6 M x) (qPins_held _ _ _ _ _)
  · exact acalls_of_evFC (consC (rot67 M) nilC) mix Tryd.func58 (q58_3_7 M x) (qPins_held _ _ _ _ _)
  · exact acalls_of_evFC (consC (rot67 M) nilC) mix Tryd.func58 (q58_0_5 M x) (qPins_held _ _ _ _ _)
  · exact acalls_of_evFC (consC (rot67 M) nilC) mix Tryd.func58 (q58_1_6 M x) (qPins_held _ _ _ _ _)
  · exact acalls_of_evFC (consC (rot67 M) nilC) mix Tryd.func58 (q58_2_7 M x) (qPins_held _ _ _ _ _)
  · exact acalls_of_evFC (consC (rot67 M) nilC) mix Tryd.func58 (q58_3_4 M x) (qPins_held _ _ _ _ _)

end Go.Proofs.YtgnbmjhljlbkhaaDoor
