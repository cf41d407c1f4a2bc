/- The specification's carrying in digits of 8 bits.
   Conditions: the digits are in bounds. -/
import Derived.Test.YtgnbmjhljlbkhaaDoorGA
import Derived.Test.YtgnbmjhljlbkhaaDoorPolyFn
open Go.Ab Go.Num
set_option linter.unusedVariables false
set_option linter.unusedSimpArgs false
namespace Go.Proofs.YtgnbmjhljlbkhaaDoor

def ld8 (cells : List Value) (g : Bool) (e s m : Nat) : Pins := (List.range m).map fun i => (ldB .i64 ⟨cells, g, e, true⟩ s (0 + i * 1), true)

set_option maxRecDepth 100000 in
theorem rC40 (M : Mem) (s c e : Nat) (g : Bool) (cells : List Value) : evFU Tryd.prog M (ovX Tryd.prog M) [22] [] [] [] 3000 Tryd.f70 [.slice (some ⟨0, 0, some s⟩) 40 c, .int .i64 40] [⟨cells, g, e, true⟩] []
   = some ((.slice (some ⟨1, 0, some 40⟩) 40 40, [⟨cells, g, e, true⟩], [⟨cellsI .i64 40 (d8W (wd cells) 40), true, 1, true⟩]), ld8 cells g e s 40) := by kernel_rfl
set_option maxRecDepth 100000 in
theorem rC24 (M : Mem) (s c e : Nat) (g : Bool) (cells : List Value) : evFU Tryd.prog M (ovX Tryd.prog M) [22] [] [] [] 3000 Tryd.f70 [.slice (some ⟨0, 0, some s⟩) 24 c, .int .i64 40] [⟨cells, g, e, true⟩] []
   = some ((.slice (some ⟨1, 0, some 40⟩) 40 40, [⟨cells, g, e, true⟩], [⟨cellsI .i64 40 (d8W (wd cells) 24), true, 1, true⟩]), ld8 cells g e s 24) := by kernel_rfl
set_option maxRecDepth 100000 in
theorem rC17 (M : Mem) (s c e : Nat) (g : Bool) (cells : List Value) : evFU Tryd.prog M (ovX Tryd.prog M) [22] [] [] [] 3000 Tryd.f70 [.slice (some ⟨0, 0, some s⟩) 17 c, .int .i64 16] [⟨cells, g, e, true⟩] []
   = some ((.slice (some ⟨1, 0, some 16⟩) 16 16, [⟨cells, g, e, true⟩], [⟨cellsI .i64 16 (d8W (wd cells) 17), true, 1, true⟩]), ld8 cells g e s 16) := by kernel_rfl

theorem ld8_held {cells : List Value} {s m m' : Nat} (h : digB cells s m = true) (hm : m' ≤ m) (g : Bool) (e : Nat) : Held (ld8 cells g e s m') := fun x hx => by
  obtain ⟨h1, h2, h3⟩ := digB_iff.1 h
  simp only [ld8, List.mem_map, List.mem_range] at hx
  obtain ⟨i, hi, rfl⟩ := hx
  have := (h3 i (by omega)).1
  simp only [ldB, h1, Nat.zero_add, Nat.mul_one, this, decide_true, Bool.and_self]

theorem carry8S (M : Mem) : (carry8Sum 70).SoundC Tryd.prog M := carry8Sum_sound Tryd.func70 (by kernel_rfl) (by kernel_rfl) fun m n s c cells g e hmn hd => by
  rcases hmn with ⟨rfl, rfl⟩ | ⟨rfl, rfl⟩ | ⟨rfl, rfl⟩
  · exact acalls_of_evFU (ovX_ok _ _) nilC mix Tryd.func70 (hooksOk_nil _) (rC40 M s c e g cells) (ld8_held hd (by omega) g e)
  · exact acalls_of_evFU (ovX_ok _ _) nilC mix Tryd.func70 (hooksOk_nil _) (rC24 M s c e g cells) (ld8_held hd (by omega) g e)
  · exact acalls_of_evFU (ovX_ok _ _) nilC mix Tryd.func70 (hooksOk_nil _) (rC17 M s c e g cells) (ld8_held hd (by omega) g e)

end Go.Proofs.YtgnbmjhljlbkhaaDoor
