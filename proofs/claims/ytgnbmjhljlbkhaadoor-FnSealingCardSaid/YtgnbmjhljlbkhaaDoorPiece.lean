/- The program's one-time authenticator: one piece of data, by its length.
   Conditions: the words are in bounds. -/
import Derived.Test.YtgnbmjhljlbkhaaDoorPoly
open Go.Ab Go.Num
set_option linter.unusedVariables false
set_option linter.unusedSimpArgs false
namespace Go.Proofs.YtgnbmjhljlbkhaaDoor

theorem rWord32 (M : Mem) (f s c e : Nat) (cells : List Value) (g : Bool) : evFU Tryd.prog M (ovStd Tryd.prog M) [17, 24, 31, 38] [] [] [] 200 Tryd.f45 [.slice (some ⟨0, f, some s⟩) 4 c] [⟨cells, g, e, true⟩] []
   = some ((.int .u32 (wordI (wd cells f) (wd cells (f + 1)) (wd cells (f + 2)) (wd cells (f + 3))), [⟨cells, g, e, true⟩], []),
      [(ldB .u8 ⟨cells, g, e, true⟩ s (f + 3), true), (ldB .u8 ⟨cells, g, e, true⟩ s (f + 2), true), (ldB .u8 ⟨cells, g, e, true⟩ s (f + 1), true), (ldB .u8 ⟨cells, g, e, true⟩ s f, true)]) := by kernel_rfl
theorem wordS4 (M : Mem) : (wordSum 45).SoundC Tryd.prog M := wordSum_sound Tryd.func45 (by kernel_rfl) (by kernel_rfl) fun f1 s c e cells g hp =>
  acalls_of_evFU (ovStd_ok _ _) nilC mix Tryd.func45 (hooksOk_nil _) (rWord32 M f1 s c e cells g) hp

def p64 (f s c : Nat) (cells : List Value) : Pins := [(decide (abounds 8 c none (some (.int .i64 4)) none = some (0, 4, c)), true), (four cells f s, true), (decide (abounds 8 c (some (.int .i64 4)) (some (.int .i64 8)) none = some (4, 8, c)), true), (four cells (f + 4) s, true)]
theorem rWord64a (M : Mem) (f s c e : Nat) (cells : List Value) : evFU Tryd.prog M (ovStd Tryd.prog M) [4, 8] [] [wordSumP 45] [] 200 Tryd.f71 [.slice (some ⟨0, f, some s⟩) 8 c] [⟨cells, false, e, true⟩] []
   = some ((.int .u64 (wordI64 (wd cells) f), [⟨cells, false, e, true⟩], []), p64 f s c cells) := by kernel_rfl
theorem rWord64b (M : Mem) (f s c : Nat) (cells : List Value) : evFU Tryd.prog M (ovStd Tryd.prog M) [4, 8] [] [wordSumP 45] [] 200 Tryd.f71 [.slice (some ⟨0, f, some s⟩) 8 c] [⟨cells, true, 1, true⟩] []
   = some ((.int .u64 (wordI64 (wd cells) f), [⟨cells, true, 1, true⟩], []), p64 f s c cells) := by kernel_rfl
theorem p64_held {f s c : Nat} {cells : List Value} (hc : 8 ≤ c) (h1 : four cells f s = true) (h2 : four cells (f + 4) s = true) : Held (p64 f s c cells) :=
  held_cons (by rw [decide_eq_true_eq]; delta abounds; simp only [bnd]; rw [if_pos (by omega)]; rfl) (held_cons h1 (held_cons (by rw [decide_eq_true_eq]; delta abounds; simp only [bnd]; rw [if_pos (by omega)]; rfl) (held_one h2)))
theorem wordS8 (M : Mem) : (word8Sum 71).SoundC Tryd.prog M := word8Sum_sound Tryd.func71 (by kernel_rfl) (by kernel_rfl)
  (fun f1 s c e cells hc h1 h2 => acalls_of_evFU (ovStd_ok _ _) (consC (wordSumP_sound (wordS4 M)) nilC) mix Tryd.func71 (hooksOk_nil _) (rWord64a M f1 s c e cells) (p64_held hc h1 h2))
  (fun f1 s c cells hc h1 h2 => acalls_of_evFU (ovStd_ok _ _) (consC (wordSumP_sound (wordS4 M)) nilC) mix Tryd.func71 (hooksOk_nil _) (rWord64b M f1 s c cells) (p64_held hc h1 h2))

/-- What copying a piece asks for. -/
def cpPin (cells : List Value) (f s n : Nat) : Bool × Bool := (decide ((17 : Nat) = 17) && (decide (0 + n * 1 ≤ 17) && (okC true ((cells.drop f).take (n * 1)) true && (decide (((cells.drop f).take (n * 1)).length = n * 1) && (decide (cells.length = s) && (decide (f + n * 1 ≤ s) && decide (n ≤ n)))))), true)

theorem cpPin_ok {cells : List Value} {f s n : Nat} (h : pieceB cells f s n = true) (hn : n ≤ 16) : (cpPin cells f s n).1 = (cpPin cells f s n).2 := by
  simp only [pieceB, Bool.and_eq_true, decide_eq_true_eq, List.all_eq_true, List.mem_range] at h
  obtain ⟨h1, h2, h3⟩ := h
  have hl : ((cells.drop f).take n).length = n := by simp; omega
  simp only [cpPin, Nat.mul_one, hl, h1]
  simp [okC, show n ≤ 17 by omega, h2]

def L72 : List Sum := [word8Sum 71, add64Sum 75, pmulSum 76]
theorem L72_sound (M : Mem) : ∀ s ∈ L72, s.SoundC Tryd.prog M := consC (wordS8 M) (consC (addS M) (consC (pmulS M) nilC))

set_option maxRecDepth 100000 in
theorem rPiece1 (M : Mem) (r0 r1 h0 h1 h2 : Int) (g : Bool) (e f s c : Nat) (cells : List Value) : evFU Tryd.prog M (ovX Tryd.prog M) [8] [] L72 [] 500 Tryd.f72 [.pointer (some ⟨0, 0, some 5⟩), .slice (some ⟨1, f, some s⟩) 1 c] [⟨[.int .u64 r0, .int .u64 r1, .int .u64 h0, .int .u64 h1, .int .u64 h2], g, e, true⟩, ⟨cells, true, 1, true⟩] []
   = some ((.tuple ⟨[]⟩, [⟨pieceRaw r0 r1 h0 h1 h2 cells f 1, g, e, true⟩, ⟨cells, true, 1, true⟩], []), cpPin cells f s 1 :: piecePins r0 r1 h0 h1 h2 cells f 1) := by kernel_rfl
set_option maxRecDepth 100000 in
theorem rPiece2 (M : Mem) (r0 r1 h0 h1 h2 : Int) (g : Bool) (e f s c : Nat) (cells : List Value) : evFU Tryd.prog M (ovX Tryd.prog M) [8] [] L72 [] 500 Tryd.f72 [.pointer (some ⟨0, 0, some 5⟩), .slice (some ⟨1, f, some s⟩) 2 c] [⟨[.int .u64 r0, .int .u64 r1, .int .u64 h0, .int .u64 h1, .int .u64 h2], g, e, true⟩, ⟨cells, true, 1, true⟩] []
   = some ((.tuple ⟨[]⟩, [⟨pieceRaw r0 r1 h0 h1 h2 cells f 2, g, e, true⟩, ⟨cells, true, 1, true⟩], []), cpPin cells f s 2 :: piecePins r0 r1 h0 h1 h2 cells f 2) := by kernel_rfl
set_option maxRecDepth 100000 in
theorem rPiece3 (M : Mem) (r0 r1 h0 h1 h2 : Int) (g : Bool) (e f s c : Nat) (cells : List Value) : evFU Tryd.prog M (ovX Tryd.prog M) [8] [] L72 [] 500 Tryd.f72 [.pointer (some ⟨0, 0, some 5⟩), .slice (some ⟨1, f, some s⟩) 3 c] [⟨[.int .u64 r0, .int .u64 r1, .int .u64 h0, .int .u64 h1, .int .u64 h2], g, e, true⟩, ⟨cells, true, 1, true⟩] []
   = some ((.tuple ⟨[]⟩, [⟨pieceRaw r0 r1 h0 h1 h2 cells f 3, g, e, true⟩, ⟨cells, true, 1, true⟩], []), cpPin cells f s 3 :: piecePins r0 r1 h0 h1 h2 cells f 3) := by kernel_rfl
set_option maxRecDepth 100000 in
theorem rPiece4 (M : Mem) (r0 r1 h0 h1 h2 : Int) (g : Bool) (e f s c : Nat) (cells : List Value) : evFU Tryd.prog M (ovX Tryd.prog M) [8] [] L72 [] 500 Tryd.f72 [.pointer (some ⟨0, 0, some 5⟩), .slice (some ⟨1, f, some s⟩) 4 c] [⟨[.int .u64 r0, .int .u64 r1, .int .u64 h0, .int .u64 h1, .int .u64 h2], g, e, true⟩, ⟨cells, true, 1, true⟩] []
   = some ((.tuple ⟨[]⟩, [⟨pieceRaw r0 r1 h0 h1 h2 cells f 4, g, e, true⟩, ⟨cells, true, 1, true⟩], []), cpPin cells f s 4 :: piecePins r0 r1 h0 h1 h2 cells f 4) := by kernel_rfl
set_option maxRecDepth 100000 in
theorem rPiece5 (M : Mem) (r0 r1 h0 h1 h2 : Int) (g : Bool) (e f s c : Nat) (cells : List Value) : evFU Tryd.prog M (ovX Tryd.prog M) [8] [] L72 [] 500 Tryd.f72 [.pointer (some ⟨0, 0, some 5⟩), .slice (some ⟨1, f, some s⟩) 5 c] [⟨[.int .u64 r0, .int .u64 r1, .int .u64 h0, .int .u64 h1, .int .u64 h2], g, e, true⟩, ⟨cells, true, 1, true⟩] []
   = some ((.tuple ⟨[]⟩, [⟨pieceRaw r0 r1 h0 h1 h2 cells f 5, g, e, true⟩, ⟨cells, true, 1, true⟩], []), cpPin cells f s 5 :: piecePins r0 r1 h0 h1 h2 cells f 5) := by kernel_rfl
set_option maxRecDepth 100000 in
theorem rPiece6 (M : Mem) (r0 r1 h0 h1 h2 : Int) (g : Bool) (e f s c : Nat) (cells : List Value) : evFU Tryd.prog M (ovX Tryd.prog M) [8] [] L72 [] 500 Tryd.f72 [.pointer (some ⟨0, 0, some 5⟩), .slice (some ⟨1, f, some s⟩) 6 c] [⟨[.int .u64 r0, .int .u64 r1, .int .u64 h0, .int .u64 h1, .int .u64 h2], g, e, true⟩, ⟨cells, true, 1, true⟩] []
   = some ((.tuple ⟨[]⟩, [⟨pieceRaw r0 r1 h0 h1 h2 cells f 6, g, e, true⟩, ⟨cells, true, 1, true⟩], []), cpPin cells f s 6 :: piecePins r0 r1 h0 h1 h2 cells f 6) := by kernel_rfl
set_option maxRecDepth 100000 in
theorem rPiece7 (M : Mem) (r0 r1 h0 h1 h2 : Int) (g : Bool) (e f s c : Nat) (cells : List Value) : evFU Tryd.prog M (ovX Tryd.prog M) [8] [] L72 [] 500 Tryd.f72 [.pointer (some ⟨0, 0, some 5⟩), .slice (some ⟨1, f, some s⟩) 7 c] [⟨[.int .u64 r0, .int .u64 r1, .int .u64 h0, .int .u64 h1, .int .u64 h2], g, e, true⟩, ⟨cells, true, 1, true⟩] []
   = some ((.tuple ⟨[]⟩, [⟨pieceRaw r0 r1 h0 h1 h2 cells f 7, g, e, true⟩, ⟨cells, true, 1, true⟩], []), cpPin cells f s 7 :: piecePins r0 r1 h0 h1 h2 cells f 7) := by kernel_rfl
set_option maxRecDepth 100000 in
theorem rPiece8 (M : Mem) (r0 r1 h0 h1 h2 : Int) (g : Bool) (e f s c : Nat) (cells : List Value) : evFU Tryd.prog M (ovX Tryd.prog M) [8] [] L72 [] 500 Tryd.f72 [.pointer (some ⟨0, 0, some 5⟩), .slice (some ⟨1, f, some s⟩) 8 c] [⟨[.int .u64 r0, .int .u64 r1, .int .u64 h0, .int .u64 h1, .int .u64 h2], g, e, true⟩, ⟨cells, true, 1, true⟩] []
   = some ((.tuple ⟨[]⟩, [⟨pieceRaw r0 r1 h0 h1 h2 cells f 8, g, e, true⟩, ⟨cells, true, 1, true⟩], []), cpPin cells f s 8 :: piecePins r0 r1 h0 h1 h2 cells f 8) := by kernel_rfl
set_option maxRecDepth 100000 in
theorem rPiece9 (M : Mem) (r0 r1 h0 h1 h2 : Int) (g : Bool) (e f s c : Nat) (cells : List Value) : evFU Tryd.prog M (ovX Tryd.prog M) [8] [] L72 [] 500 Tryd.f72 [.pointer (some ⟨0, 0, some 5⟩), .slice (some ⟨1, f, some s⟩) 9 c] [⟨[.int .u64 r0, .int .u64 r1, .int .u64 h0, .int .u64 h1, .int .u64 h2], g, e, true⟩, ⟨cells, true, 1, true⟩] []
   = some ((.tuple ⟨[]⟩, [⟨pieceRaw r0 r1 h0 h1 h2 cells f 9, g, e, true⟩, ⟨cells, true, 1, true⟩], []), cpPin cells f s 9 :: piecePins r0 r1 h0 h1 h2 cells f 9) := by kernel_rfl
set_option maxRecDepth 100000 in
theorem rPiece10 (M : Mem) (r0 r1 h0 h1 h2 : Int) (g : Bool) (e f s c : Nat) (cells : List Value) : evFU Tryd.prog M (ovX Tryd.prog M) [8] [] L72 [] 500 Tryd.f72 [.pointer (some ⟨0, 0, some 5⟩), .slice (some ⟨1, f, some s⟩) 10 c] [⟨[.int .u64 r0, .int .u64 r1, .int .u64 h0, .int .u64 h1, .int .u64 h2], g, e, true⟩, ⟨cells, true, 1, true⟩] []
   = some ((.tuple ⟨[]⟩, [⟨pieceRaw r0 r1 h0 h1 h2 cells f 10, g, e, true⟩, ⟨cells, true, 1, true⟩], []), cpPin cells f s 10 :: piecePins r0 r1 h0 h1 h2 cells f 10) := by kernel_rfl
set_option maxRecDepth 100000 in
theorem rPiece11 (M : Mem) (r0 r1 h0 h1 h2 : Int) (g : Bool) (e f s c : Nat) (cells : List Value) : evFU Tryd.prog M (ovX Tryd.prog M) [8] [] L72 [] 500 Tryd.f72 [.pointer (some ⟨0, 0, some 5⟩), .slice (some ⟨1, f, some s⟩) 11 c] [⟨[.int .u64 r0, .int .u64 r1, .int .u64 h0, .int .u64 h1, .int .u64 h2], g, e, true⟩, ⟨cells, true, 1, true⟩] []
   = some ((.tuple ⟨[]⟩, [⟨pieceRaw r0 r1 h0 h1 h2 cells f 11, g, e, true⟩, ⟨cells, true, 1, true⟩], []), cpPin cells f s 11 :: piecePins r0 r1 h0 h1 h2 cells f 11) := by kernel_rfl
set_option maxRecDepth 100000 in
theorem rPiece12 (M : Mem) (r0 r1 h0 h1 h2 : Int) (g : Bool) (e f s c : Nat) (cells : List Value) : evFU Tryd.prog M (ovX Tryd.prog M) [8] [] L72 [] 500 Tryd.f72 [.pointer (some ⟨0, 0, some 5⟩), .slice (some ⟨1, f, some s⟩) 12 c] [⟨[.int .u64 r0, .int .u64 r1, .int .u64 h0, .int .u64 h1, .int .u64 h2], g, e, true⟩, ⟨cells, true, 1, true⟩] []
   = some ((.tuple ⟨[]⟩, [⟨pieceRaw r0 r1 h0 h1 h2 cells f 12, g, e, true⟩, ⟨cells, true, 1, true⟩], []), cpPin cells f s 12 :: piecePins r0 r1 h0 h1 h2 cells f 12) := by kernel_rfl
set_option maxRecDepth 100000 in
theorem rPiece13 (M : Mem) (r0 r1 h0 h1 h2 : Int) (g : Bool) (e f s c : Nat) (cells : List Value) : evFU Tryd.prog M (ovX Tryd.prog M) [8] [] L72 [] 500 Tryd.f72 [.pointer (some ⟨0, 0, some 5⟩), .slice (some ⟨1, f, some s⟩) 13 c] [⟨[.int .u64 r0, .int .u64 r1, .int .u64 h0, .int .u64 h1, .int .u64 h2], g, e, true⟩, ⟨cells, true, 1, true⟩] []
   = some ((.tuple ⟨[]⟩, [⟨pieceRaw r0 r1 h0 h1 h2 cells f 13, g, e, true⟩, ⟨cells, true, 1, true⟩], []), cpPin cells f s 13 :: piecePins r0 r1 h0 h1 h2 cells f 13) := by kernel_rfl
set_option maxRecDepth 100000 in
theorem rPiece14 (M : Mem) (r0 r1 h0 h1 h2 : Int) (g : Bool) (e f s c : Nat) (cells : List Value) : evFU Tryd.prog M (ovX Tryd.prog M) [8] [] L72 [] 500 Tryd.f72 [.pointer (some ⟨0, 0, some 5⟩), .slice (some ⟨1, f, some s⟩) 14 c] [⟨[.int .u64 r0, .int .u64 r1, .int .u64 h0, .int .u64 h1, .int .u64 h2], g, e, true⟩, ⟨cells, true, 1, true⟩] []
   = some ((.tuple ⟨[]⟩, [⟨pieceRaw r0 r1 h0 h1 h2 cells f 14, g, e, true⟩, ⟨cells, true, 1, true⟩], []), cpPin cells f s 14 :: piecePins r0 r1 h0 h1 h2 cells f 14) := by kernel_rfl
set_option maxRecDepth 100000 in
theorem rPiece15 (M : Mem) (r0 r1 h0 h1 h2 : Int) (g : Bool) (e f s c : Nat) (cells : List Value) : evFU Tryd.prog M (ovX Tryd.prog M) [8] [] L72 [] 500 Tryd.f72 [.pointer (some ⟨0, 0, some 5⟩), .slice (some ⟨1, f, some s⟩) 15 c] [⟨[.int .u64 r0, .int .u64 r1, .int .u64 h0, .int .u64 h1, .int .u64 h2], g, e, true⟩, ⟨cells, true, 1, true⟩] []
   = some ((.tuple ⟨[]⟩, [⟨pieceRaw r0 r1 h0 h1 h2 cells f 15, g, e, true⟩, ⟨cells, true, 1, true⟩], []), cpPin cells f s 15 :: piecePins r0 r1 h0 h1 h2 cells f 15) := by kernel_rfl
set_option maxRecDepth 100000 in
theorem rPiece16 (M : Mem) (r0 r1 h0 h1 h2 : Int) (g : Bool) (e f s c : Nat) (cells : List Value) : evFU Tryd.prog M (ovX Tryd.prog M) [8] [] L72 [] 500 Tryd.f72 [.pointer (some ⟨0, 0, some 5⟩), .slice (some ⟨1, f, some s⟩) 16 c] [⟨[.int .u64 r0, .int .u64 r1, .int .u64 h0, .int .u64 h1, .int .u64 h2], g, e, true⟩, ⟨cells, true, 1, true⟩] []
   = some ((.tuple ⟨[]⟩, [⟨pieceRaw r0 r1 h0 h1 h2 cells f 16, g, e, true⟩, ⟨cells, true, 1, true⟩], []), cpPin cells f s 16 :: piecePins r0 r1 h0 h1 h2 cells f 16) := by kernel_rfl

theorem pieceS (M : Mem) : (pieceSum 72).SoundC Tryd.prog M := sumC_sound Tryd.func72 (by kernel_rfl) (by kernel_rfl) fun args os v os' ns hs hp => by
  simp only [pieceSum] at hs hp ⊢
  split at hs
  · rename_i f1 s n c r0 r1 h0 h1 h2 g e cells
    split at hs
    · rename_i hn
      cases hs
      refine ⟨?_, fun h => by cases h⟩
      simp only [Bool.and_eq_true] at hn
      have n1 := Nat.blt_eq.mp hn.1
      have n2 := Nat.le_of_ble_eq_true hn.2
      have c1 : (polyOk r0 r1 h0 h1 h2 && decide (h2 ≤ 5)) = true := hp (_, true) (List.Mem.head _)
      have c2 : pieceB cells f1 s n = true := hp (pieceB cells f1 s n, true) (List.Mem.tail _ (List.Mem.head _))
      simp only [Bool.and_eq_true, decide_eq_true_eq] at c1
      obtain ⟨ok, held⟩ := piece_ok c1.1 c1.2 c2 n2
      have hh : Held (cpPin cells f1 s n :: piecePins r0 r1 h0 h1 h2 cells f1 n) := fun x hx => by
        rcases List.mem_cons.1 hx with rfl | hx
        · exact cpPin_ok c2 n2
        · exact held x hx
      rw [← ok]
      clear ok held
      rcases (by omega : n = 1 ∨ n = 2 ∨ n = 3 ∨ n = 4 ∨ n = 5 ∨ n = 6 ∨ n = 7 ∨ n = 8 ∨ n = 9 ∨ n = 10 ∨ n = 11 ∨ n = 12 ∨ n = 13 ∨ n = 14 ∨ n = 15 ∨ n = 16) with rfl | rfl | rfl | rfl | rfl | rfl | rfl | rfl | rfl | rfl | rfl | rfl | rfl | rfl | rfl | rfl
      · exact acalls_of_evFU (ovX_ok _ _) (L72_sound M) mix Tryd.func72 (hooksOk_nil _) (rPiece1 M r0 r1 h0 h1 h2 g e f1 s c cells) hh
      · exact acalls_of_evFU (ovX_ok _ _) (L72_sound M) mix Tryd.func72 (hooksOk_nil _) (rPiece2 M r0 r1 h0 h1 h2 g e f1 s c cells) hh
      · exact acalls_of_evFU (ovX_ok _ _) (L72_sound M) mix Tryd.func72 (hooksOk_nil _) (rPiece3 M r0 r1 h0 h1 h2 g e f1 s c cells) hh
      · exact acalls_of_evFU (ovX_ok _ _) (L72_sound M) mix Tryd.func72 (hooksOk_nil _) (rPiece4 M r0 r1 h0 h1 h2 g e f1 s c cells) hh
      · exact acalls_of_evFU (ovX_ok _ _) (L72_sound M) mix Tryd.func72 (hooksOk_nil _) (rPiece5 M r0 r1 h0 h1 h2 g e f1 s c cells) hh
      · exact acalls_of_evFU (ovX_ok _ _) (L72_sound M) mix Tryd.func72 (hooksOk_nil _) (rPiece6 M r0 r1 h0 h1 h2 g e f1 s c cells) hh
      · exact acalls_of_evFU (ovX_ok _ _) (L72_sound M) mix Tryd.func72 (hooksOk_nil _) (rPiece7 M r0 r1 h0 h1 h2 g e f1 s c cells) hh
      · exact acalls_of_evFU (ovX_ok _ _) (L72_sound M) mix Tryd.func72 (hooksOk_nil _) (rPiece8 M r0 r1 h0 h1 h2 g e f1 s c cells) hh
      · exact acalls_of_evFU (ovX_ok _ _) (L72_sound M) mix Tryd.func72 (hooksOk_nil _) (rPiece9 M r0 r1 h0 h1 h2 g e f1 s c cells) hh
      · exact acalls_of_evFU (ovX_ok _ _) (L72_sound M) mix Tryd.func72 (hooksOk_nil _) (rPiece10 M r0 r1 h0 h1 h2 g e f1 s c cells) hh
      · exact acalls_of_evFU (ovX_ok _ _) (L72_sound M) mix Tryd.func72 (hooksOk_nil _) (rPiece11 M r0 r1 h0 h1 h2 g e f1 s c cells) hh
      · exact acalls_of_evFU (ovX_ok _ _) (L72_sound M) mix Tryd.func72 (hooksOk_nil _) (rPiece12 M r0 r1 h0 h1 h2 g e f1 s c cells) hh
      · exact acalls_of_evFU (ovX_ok _ _) (L72_sound M) mix Tryd.func72 (hooksOk_nil _) (rPiece13 M r0 r1 h0 h1 h2 g e f1 s c cells) hh
      · exact acalls_of_evFU (ovX_ok _ _) (L72_sound M) mix Tryd.func72 (hooksOk_nil _) (rPiece14 M r0 r1 h0 h1 h2 g e f1 s c cells) hh
      · exact acalls_of_evFU (ovX_ok _ _) (L72_sound M) mix Tryd.func72 (hooksOk_nil _) (rPiece15 M r0 r1 h0 h1 h2 g e f1 s c cells) hh
      · exact acalls_of_evFU (ovX_ok _ _) (L72_sound M) mix Tryd.func72 (hooksOk_nil _) (rPiece16 M r0 r1 h0 h1 h2 g e f1 s c cells) hh
    · cases hs
  · cases hs

end Go.Proofs.YtgnbmjhljlbkhaaDoor
