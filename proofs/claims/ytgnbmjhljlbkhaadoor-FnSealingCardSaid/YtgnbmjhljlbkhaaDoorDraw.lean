/- Facts on this program: its source of draws.
   Conditions: none. -/
import Derived.Test.YtgnbmjhljlbkhaaDoorAbD
import Derived.Test.YtgnbmjhljlbkhaaDoorBase
open Go.Ab
set_option linter.unusedVariables false
set_option linter.unusedSimpArgs false
namespace Go.Proofs.YtgnbmjhljlbkhaaDoor
/-! ### (*l1Src).N -/
set_option maxRecDepth 100000 in
theorem dNs1 (M : Mem) (b off n c : Nat) (i x k : Int) (g : Bool) (e : Nat) : evFU Tryd.prog M (ovD Tryd.prog M) [24, 25, 55] [] [] [15, 47] 200 Tryd.f39 [.pointer (some ⟨0, 0, some 3⟩), .int .i64 k] [⟨[.slice (some ⟨b, off, none⟩) n c, .int .i64 i, .int .u64 x], g, e, false⟩] [true, false]
   = some ((.int .i64 (nR (nX x (IntKind.wrap .u64 (IntKind.wrap .u64 (vint ((M b (off + i.toNat * 1)).getD undef)) + 1))) k), [⟨[.slice (some ⟨b, off, none⟩) n c, .int .i64 (IntKind.wrap .i64 (i + 1)), .int .u64 (nX x (IntKind.wrap .u64 (IntKind.wrap .u64 (vint ((M b (off + i.toNat * 1)).getD undef)) + 1)))], g, e, false⟩], []), [(decide (i < (n : Int)), true), (inB i n, true), (roB .u8 M b (off + i.toNat * 1), true), (decide (k ≤ 1), false), (decide (IntKind.wrap .u64 k = 0), false)]) := by kernel_rfl
set_option maxRecDepth 100000 in
theorem dNs0 (M : Mem) (b off n c : Nat) (i x k : Int) (g : Bool) (e : Nat) : evFU Tryd.prog M (ovD Tryd.prog M) [24, 25, 55] [] [] [15, 47] 200 Tryd.f39 [.pointer (some ⟨0, 0, some 3⟩), .int .i64 k] [⟨[.slice (some ⟨b, off, none⟩) n c, .int .i64 i, .int .u64 x], g, e, false⟩] [true, true]
   = some ((.int .i64 0, [⟨[.slice (some ⟨b, off, none⟩) n c, .int .i64 (IntKind.wrap .i64 (i + 1)), .int .u64 (nX x (IntKind.wrap .u64 (IntKind.wrap .u64 (vint ((M b (off + i.toNat * 1)).getD undef)) + 1)))], g, e, false⟩], []), [(decide (i < (n : Int)), true), (inB i n, true), (roB .u8 M b (off + i.toNat * 1), true), (decide (k ≤ 1), true)]) := by kernel_rfl
set_option maxRecDepth 100000 in
theorem dNn1 (M : Mem) (b off n c : Nat) (i x k : Int) (g : Bool) (e : Nat) : evFU Tryd.prog M (ovD Tryd.prog M) [24, 25, 55] [] [] [15, 47] 200 Tryd.f39 [.pointer (some ⟨0, 0, some 3⟩), .int .i64 k] [⟨[.slice (some ⟨b, off, none⟩) n c, .int .i64 i, .int .u64 x], g, e, false⟩] [false, false]
   = some ((.int .i64 (nR (nX x 0) k), [⟨[.slice (some ⟨b, off, none⟩) n c, .int .i64 i, .int .u64 (nX x 0)], g, e, false⟩], []), [(decide (i < (n : Int)), false), (decide (k ≤ 1), false), (decide (IntKind.wrap .u64 k = 0), false)]) := by kernel_rfl
set_option maxRecDepth 100000 in
theorem dNn0 (M : Mem) (b off n c : Nat) (i x k : Int) (g : Bool) (e : Nat) : evFU Tryd.prog M (ovD Tryd.prog M) [24, 25, 55] [] [] [15, 47] 200 Tryd.f39 [.pointer (some ⟨0, 0, some 3⟩), .int .i64 k] [⟨[.slice (some ⟨b, off, none⟩) n c, .int .i64 i, .int .u64 x], g, e, false⟩] [false, true]
   = some ((.int .i64 0, [⟨[.slice (some ⟨b, off, none⟩) n c, .int .i64 i, .int .u64 (nX x 0)], g, e, false⟩], []), [(decide (i < (n : Int)), false), (decide (k ≤ 1), true)]) := by kernel_rfl
set_option maxRecDepth 100000 in
theorem dNz1 (M : Mem) (i x k : Int) (g : Bool) (e : Nat) : evFU Tryd.prog M (ovD Tryd.prog M) [24, 25, 55] [] [] [15, 47] 200 Tryd.f39 [.pointer (some ⟨0, 0, some 3⟩), .int .i64 k] [⟨[.slice none 0 0, .int .i64 i, .int .u64 x], g, e, false⟩] [false, false]
   = some ((.int .i64 (nR (nX x 0) k), [⟨[.slice none 0 0, .int .i64 i, .int .u64 (nX x 0)], g, e, false⟩], []), [(decide (i < ((0 : Nat) : Int)), false), (decide (k ≤ 1), false), (decide (IntKind.wrap .u64 k = 0), false)]) := by kernel_rfl
set_option maxRecDepth 100000 in
theorem dNz0 (M : Mem) (i x k : Int) (g : Bool) (e : Nat) : evFU Tryd.prog M (ovD Tryd.prog M) [24, 25, 55] [] [] [15, 47] 200 Tryd.f39 [.pointer (some ⟨0, 0, some 3⟩), .int .i64 k] [⟨[.slice none 0 0, .int .i64 i, .int .u64 x], g, e, false⟩] [false, true]
   = some ((.int .i64 0, [⟨[.slice none 0 0, .int .i64 i, .int .u64 (nX x 0)], g, e, false⟩], []), [(decide (i < ((0 : Nat) : Int)), false), (decide (k ≤ 1), true)]) := by kernel_rfl
theorem dN (M : Mem) : (nSumG M 39).SoundC Tryd.prog M := nSumG_sound Tryd.func39 (by kernel_rfl) (by kernel_rfl)
  (fun b off n c i x k g e h => acalls_of_evFU (ovD_ok _ _) nilC mix Tryd.func39 (hooksOk_nil _) (dNs1 M b off n c i x k g e) h)
  (fun b off n c i x k g e h => acalls_of_evFU (ovD_ok _ _) nilC mix Tryd.func39 (hooksOk_nil _) (dNs0 M b off n c i x k g e) h)
  (fun b off n c i x k g e h => acalls_of_evFU (ovD_ok _ _) nilC mix Tryd.func39 (hooksOk_nil _) (dNn1 M b off n c i x k g e) h)
  (fun b off n c i x k g e h => acalls_of_evFU (ovD_ok _ _) nilC mix Tryd.func39 (hooksOk_nil _) (dNn0 M b off n c i x k g e) h)
  (fun i x k g e h => acalls_of_evFU (ovD_ok _ _) nilC mix Tryd.func39 (hooksOk_nil _) (dNz1 M i x k g e) h)
  (fun i x k g e h => acalls_of_evFU (ovD_ok _ _) nilC mix Tryd.func39 (hooksOk_nil _) (dNz0 M i x k g e) h)

/-! ### (*l1Src).One -/
set_option maxRecDepth 100000 in
theorem dOs (M : Mem) (b off n c : Nat) (i x k : Int) (g : Bool) (e : Nat) : evFC Tryd.prog M [nSumG M 39] [] 200 Tryd.f55 [.pointer (some ⟨0, 0, some 3⟩), .int .i64 k] [⟨[.slice (some ⟨b, off, none⟩) n c, .int .i64 i, .int .u64 x], g, e, false⟩] []
   = some ((.bool (nK k (nX x (nC M (some ⟨b, off, none⟩) n i)) == 0), [⟨[.slice (some ⟨b, off, none⟩) n c, .int .i64 (nI n i), .int .u64 (nX x (nC M (some ⟨b, off, none⟩) n i))], g, e, false⟩], []), [(nOk M (some ⟨b, off, none⟩) n && decide (0 ≤ i), true), (decide (k ≤ 4611686018427387904), true)]) := by kernel_rfl
set_option maxRecDepth 100000 in
theorem dOz (M : Mem) (i x k : Int) (g : Bool) (e : Nat) : evFC Tryd.prog M [nSumG M 39] [] 200 Tryd.f55 [.pointer (some ⟨0, 0, some 3⟩), .int .i64 k] [⟨[.slice none 0 0, .int .i64 i, .int .u64 x], g, e, false⟩] []
   = some ((.bool (nK k (nX x (nC M none 0 i)) == 0), [⟨[.slice none 0 0, .int .i64 (nI 0 i), .int .u64 (nX x (nC M none 0 i))], g, e, false⟩], []), [(nOk M none 0 && decide (0 ≤ i), true), (decide (k ≤ 4611686018427387904), true)]) := by kernel_rfl
theorem dO (M : Mem) : (oneSumG M 55).SoundC Tryd.prog M := oneSumG_sound Tryd.func55 (by kernel_rfl) (by kernel_rfl)
  (fun b off n c i x k g e h => acalls_of_evFC (consC (dN M) nilC) mix Tryd.func55 (dOs M b off n c i x k g e) h)
  (fun i x k g e h => acalls_of_evFC (consC (dN M) nilC) mix Tryd.func55 (dOz M i x k g e) h)

/-! ### (*l1Src).Key -/
set_option maxRecDepth 100000 in
theorem dKsa (M : Mem) (b off n c : Nat) (i x : Int) (g : Bool) (e : Nat) : evFC Tryd.prog M [nSumG M 39, oneSumG M 55] [9, 22] 2000 Tryd.f33 [.pointer (some ⟨0, 0, some 3⟩)] [⟨[.slice (some ⟨b, off, none⟩) n c, .int .i64 i, .int .u64 x], g, e, false⟩] [true, true]
   = some ((.agg ⟨cellsI .u8 32 (fun j => bif Nat.beq j 31 then 127 else (IntKind.u8.wrap (IntKind.i64.wrap (255 * nK 2 (drawC M (some ⟨b, off, none⟩) n (x, i) 2).1))))⟩, [⟨[.slice (some ⟨b, off, none⟩) n c, .int .i64 (drawC M (some ⟨b, off, none⟩) n (x, i) 3).2, .int .u64 (drawC M (some ⟨b, off, none⟩) n (x, i) 3).1], g, e, false⟩], []), dPin M (some ⟨b, off, none⟩) n (drawC M (some ⟨b, off, none⟩) n (x, i) 0) 12 ++ ((nK 12 (drawC M (some ⟨b, off, none⟩) n (x, i) 1).1 == 0, true) :: (dPin M (some ⟨b, off, none⟩) n (drawC M (some ⟨b, off, none⟩) n (x, i) 1) 2 ++ (dPin M (some ⟨b, off, none⟩) n (drawC M (some ⟨b, off, none⟩) n (x, i) 2) 2 ++ [(nK 2 (drawC M (some ⟨b, off, none⟩) n (x, i) 3).1 == 0, true)])))) := by kernel_rfl
set_option maxRecDepth 100000 in
theorem dKza (M : Mem) (i x : Int) (g : Bool) (e : Nat) : evFC Tryd.prog M [nSumG M 39, oneSumG M 55] [9, 22] 2000 Tryd.f33 [.pointer (some ⟨0, 0, some 3⟩)] [⟨[.slice none 0 0, .int .i64 i, .int .u64 x], g, e, false⟩] [true, true]
   = some ((.agg ⟨cellsI .u8 32 (fun j => bif Nat.beq j 31 then 127 else (IntKind.u8.wrap (IntKind.i64.wrap (255 * nK 2 (drawC M none 0 (x, i) 2).1))))⟩, [⟨[.slice none 0 0, .int .i64 (drawC M none 0 (x, i) 3).2, .int .u64 (drawC M none 0 (x, i) 3).1], g, e, false⟩], []), dPin M none 0 (drawC M none 0 (x, i) 0) 12 ++ ((nK 12 (drawC M none 0 (x, i) 1).1 == 0, true) :: (dPin M none 0 (drawC M none 0 (x, i) 1) 2 ++ (dPin M none 0 (drawC M none 0 (x, i) 2) 2 ++ [(nK 2 (drawC M none 0 (x, i) 3).1 == 0, true)])))) := by kernel_rfl
set_option maxRecDepth 100000 in
theorem dKsb (M : Mem) (b off n c : Nat) (i x : Int) (g : Bool) (e : Nat) : evFC Tryd.prog M [nSumG M 39, oneSumG M 55] [9, 22] 2000 Tryd.f33 [.pointer (some ⟨0, 0, some 3⟩)] [⟨[.slice (some ⟨b, off, none⟩) n c, .int .i64 i, .int .u64 x], g, e, false⟩] [true, false]
   = some ((.agg ⟨cellsI .u8 32 (fun _ => (IntKind.u8.wrap (IntKind.i64.wrap (255 * nK 2 (drawC M (some ⟨b, off, none⟩) n (x, i) 2).1))))⟩, [⟨[.slice (some ⟨b, off, none⟩) n c, .int .i64 (drawC M (some ⟨b, off, none⟩) n (x, i) 3).2, .int .u64 (drawC M (some ⟨b, off, none⟩) n (x, i) 3).1], g, e, false⟩], []), dPin M (some ⟨b, off, none⟩) n (drawC M (some ⟨b, off, none⟩) n (x, i) 0) 12 ++ ((nK 12 (drawC M (some ⟨b, off, none⟩) n (x, i) 1).1 == 0, true) :: (dPin M (some ⟨b, off, none⟩) n (drawC M (some ⟨b, off, none⟩) n (x, i) 1) 2 ++ (dPin M (some ⟨b, off, none⟩) n (drawC M (some ⟨b, off, none⟩) n (x, i) 2) 2 ++ [(nK 2 (drawC M (some ⟨b, off, none⟩) n (x, i) 3).1 == 0, false)])))) := by kernel_rfl
set_option maxRecDepth 100000 in
theorem dKzb (M : Mem) (i x : Int) (g : Bool) (e : Nat) : evFC Tryd.prog M [nSumG M 39, oneSumG M 55] [9, 22] 2000 Tryd.f33 [.pointer (some ⟨0, 0, some 3⟩)] [⟨[.slice none 0 0, .int .i64 i, .int .u64 x], g, e, false⟩] [true, false]
   = some ((.agg ⟨cellsI .u8 32 (fun _ => (IntKind.u8.wrap (IntKind.i64.wrap (255 * nK 2 (drawC M none 0 (x, i) 2).1))))⟩, [⟨[.slice none 0 0, .int .i64 (drawC M none 0 (x, i) 3).2, .int .u64 (drawC M none 0 (x, i) 3).1], g, e, false⟩], []), dPin M none 0 (drawC M none 0 (x, i) 0) 12 ++ ((nK 12 (drawC M none 0 (x, i) 1).1 == 0, true) :: (dPin M none 0 (drawC M none 0 (x, i) 1) 2 ++ (dPin M none 0 (drawC M none 0 (x, i) 2) 2 ++ [(nK 2 (drawC M none 0 (x, i) 3).1 == 0, false)])))) := by kernel_rfl
set_option maxRecDepth 100000 in
theorem dKsc (M : Mem) (b off n c : Nat) (i x : Int) (g : Bool) (e : Nat) : evFC Tryd.prog M [nSumG M 39, oneSumG M 55] [9, 22] 2000 Tryd.f33 [.pointer (some ⟨0, 0, some 3⟩)] [⟨[.slice (some ⟨b, off, none⟩) n c, .int .i64 i, .int .u64 x], g, e, false⟩] [false]
   = some ((.agg ⟨cellsI .u8 32 (fun j => IntKind.u8.wrap (nK 256 (drawC M (some ⟨b, off, none⟩) n (x, i) (j + 2)).1))⟩, [⟨[.slice (some ⟨b, off, none⟩) n c, .int .i64 (drawC M (some ⟨b, off, none⟩) n (x, i) 33).2, .int .u64 (drawC M (some ⟨b, off, none⟩) n (x, i) 33).1], g, e, false⟩], []), dPin M (some ⟨b, off, none⟩) n (drawC M (some ⟨b, off, none⟩) n (x, i) 0) 12 ++ ((nK 12 (drawC M (some ⟨b, off, none⟩) n (x, i) 1).1 == 0, false) :: dPins M (some ⟨b, off, none⟩) n (drawC M (some ⟨b, off, none⟩) n (x, i)) 256 1 32)) := by kernel_rfl
set_option maxRecDepth 100000 in
theorem dKzc (M : Mem) (i x : Int) (g : Bool) (e : Nat) : evFC Tryd.prog M [nSumG M 39, oneSumG M 55] [9, 22] 2000 Tryd.f33 [.pointer (some ⟨0, 0, some 3⟩)] [⟨[.slice none 0 0, .int .i64 i, .int .u64 x], g, e, false⟩] [false]
   = some ((.agg ⟨cellsI .u8 32 (fun j => IntKind.u8.wrap (nK 256 (drawC M none 0 (x, i) (j + 2)).1))⟩, [⟨[.slice none 0 0, .int .i64 (drawC M none 0 (x, i) 33).2, .int .u64 (drawC M none 0 (x, i) 33).1], g, e, false⟩], []), dPin M none 0 (drawC M none 0 (x, i) 0) 12 ++ ((nK 12 (drawC M none 0 (x, i) 1).1 == 0, false) :: dPins M none 0 (drawC M none 0 (x, i)) 256 1 32)) := by kernel_rfl
theorem dK_x (M : Mem) : ArrX Tryd.prog M 33 32 := fun u n c g e p h => by
  obtain ⟨x, i⟩ := p
  obtain ⟨h1, h2, h3⟩ := srcOk_iff.1 h
  have hl : ∀ s ∈ [nSumG M 39, oneSumG M 55], s.SoundC Tryd.prog M := consC (dN M) (consC (dO M) nilC)
  have hb : ∀ (a : Bool) (v : Int) j, IntKind.u8.has v → IntKind.u8.has (bif Nat.beq j 31 then 127 else v) := fun _ v j hv => by
    cases Nat.beq j 31 with
    | false => exact hv
    | true => show (0 : Int) ≤ 127 ∧ (127 : Int) ≤ 255; decide
  cases u with
  | some q =>
    obtain ⟨b, off⟩ := q
    have hu : nOk M (some ⟨b, off, none⟩) n = true := h1
    have hD := drawC_ok (M := M) (u := some ⟨b, off, none⟩) (n := n) h2 (p := (x, i)) h3
    have p1 := fun j k (hk : k ≤ 4611686018427387904) => dPin_held (k := k) hu (hD j) hk
    by_cases q1 : (nK 12 (drawC M (some ⟨b, off, none⟩) n (x, i) 1).1 == 0) = true
    · by_cases q2 : (nK 2 (drawC M (some ⟨b, off, none⟩) n (x, i) 3).1 == 0) = true
      · exact ⟨(_, (_, _)), fun j => hb true _ j (u8_wrap _), hD 3, acalls_of_evFC hl mix Tryd.func33 (dKsa M b off n c i x g e) (held_two (p1 0 12 (by decide)) (held_cons q1 (held_two (p1 1 2 (by decide)) (held_two (p1 2 2 (by decide)) (held_one q2)))))⟩
      · exact ⟨(_, (_, _)), fun j => u8_wrap _, hD 3, acalls_of_evFC hl mix Tryd.func33 (dKsb M b off n c i x g e) (held_two (p1 0 12 (by decide)) (held_cons q1 (held_two (p1 1 2 (by decide)) (held_two (p1 2 2 (by decide)) (held_one (by simpa using q2))))))⟩
    · exact ⟨(_, (_, _)), fun j => u8_wrap _, hD 33, acalls_of_evFC hl mix Tryd.func33 (dKsc M b off n c i x g e) (held_two (p1 0 12 (by decide)) (held_cons (by simpa using q1) (dPins_held hu hD (by decide) 32 1)))⟩
  | none =>
    have hu : nOk M none 0 = true := h1
    have hD := drawC_ok (M := M) (u := none) (n := 0) (by decide) (p := (x, i)) h3
    have p1 := fun j k (hk : k ≤ 4611686018427387904) => dPin_held (k := k) hu (hD j) hk
    by_cases q1 : (nK 12 (drawC M none 0 (x, i) 1).1 == 0) = true
    · by_cases q2 : (nK 2 (drawC M none 0 (x, i) 3).1 == 0) = true
      · exact ⟨(_, (_, _)), fun j => hb true _ j (u8_wrap _), hD 3, acalls_of_evFC hl mix Tryd.func33 (dKza M i x g e) (held_two (p1 0 12 (by decide)) (held_cons q1 (held_two (p1 1 2 (by decide)) (held_two (p1 2 2 (by decide)) (held_one q2)))))⟩
      · exact ⟨(_, (_, _)), fun j => u8_wrap _, hD 3, acalls_of_evFC hl mix Tryd.func33 (dKzb M i x g e) (held_two (p1 0 12 (by decide)) (held_cons q1 (held_two (p1 1 2 (by decide)) (held_two (p1 2 2 (by decide)) (held_one (by simpa using q2))))))⟩
    · exact ⟨(_, (_, _)), fun j => u8_wrap _, hD 33, acalls_of_evFC hl mix Tryd.func33 (dKzc M i x g e) (held_two (p1 0 12 (by decide)) (held_cons (by simpa using q1) (dPins_held hu hD (by decide) 32 1)))⟩
theorem dK (M : Mem) : (arrSumG Tryd.prog M 33 32).SoundC Tryd.prog M := arrSumG_sound Tryd.func33 (by kernel_rfl) (by kernel_rfl) (dK_x M)

/-! ### an array filled by draws -/
set_option maxRecDepth 100000 in
theorem dAs (M : Mem) (b off n c : Nat) (i x : Int) (g : Bool) (e : Nat) : evFC Tryd.prog M [nSumG M 39] [] 2000 Tryd.f34 [.pointer (some ⟨0, 0, some 3⟩)] [⟨[.slice (some ⟨b, off, none⟩) n c, .int .i64 i, .int .u64 x], g, e, false⟩] []
   = some ((.agg ⟨cellsI .u8 24 (fun j => IntKind.u8.wrap (nK 256 (drawC M (some ⟨b, off, none⟩) n (x, i) (j + 1)).1))⟩, [⟨[.slice (some ⟨b, off, none⟩) n c, .int .i64 (drawC M (some ⟨b, off, none⟩) n (x, i) 24).2, .int .u64 (drawC M (some ⟨b, off, none⟩) n (x, i) 24).1], g, e, false⟩], []), dPins M (some ⟨b, off, none⟩) n (drawC M (some ⟨b, off, none⟩) n (x, i)) 256 0 24) := by kernel_rfl
set_option maxRecDepth 100000 in
theorem dAz (M : Mem) (i x : Int) (g : Bool) (e : Nat) : evFC Tryd.prog M [nSumG M 39] [] 2000 Tryd.f34 [.pointer (some ⟨0, 0, some 3⟩)] [⟨[.slice none 0 0, .int .i64 i, .int .u64 x], g, e, false⟩] []
   = some ((.agg ⟨cellsI .u8 24 (fun j => IntKind.u8.wrap (nK 256 (drawC M none 0 (x, i) (j + 1)).1))⟩, [⟨[.slice none 0 0, .int .i64 (drawC M none 0 (x, i) 24).2, .int .u64 (drawC M none 0 (x, i) 24).1], g, e, false⟩], []), dPins M none 0 (drawC M none 0 (x, i)) 256 0 24) := by kernel_rfl
theorem dA_x (M : Mem) : ArrX Tryd.prog M 34 24 := fun u n c g e p h => by
  obtain ⟨x, i⟩ := p
  obtain ⟨h1, h2, h3⟩ := srcOk_iff.1 h
  have hl : ∀ s ∈ [nSumG M 39], s.SoundC Tryd.prog M := consC (dN M) nilC
  cases u with
  | some q =>
    obtain ⟨b, off⟩ := q
    have hu : nOk M (some ⟨b, off, none⟩) n = true := h1
    have hD := drawC_ok (M := M) (u := some ⟨b, off, none⟩) (n := n) h2 (p := (x, i)) h3
    exact ⟨(_, (_, _)), fun j => u8_wrap _, hD 24, acalls_of_evFC hl mix Tryd.func34 (dAs M b off n c i x g e) (dPins_held hu hD (by decide) 24 0)⟩
  | none =>
    have hu : nOk M none 0 = true := h1
    have hD := drawC_ok (M := M) (u := none) (n := 0) (by decide) (p := (x, i)) h3
    exact ⟨(_, (_, _)), fun j => u8_wrap _, hD 24, acalls_of_evFC hl mix Tryd.func34 (dAz M i x g e) (dPins_held hu hD (by decide) 24 0)⟩
theorem dA (M : Mem) : (arrSumG Tryd.prog M 34 24).SoundC Tryd.prog M := arrSumG_sound Tryd.func34 (by kernel_rfl) (by kernel_rfl) (dA_x M)
end Go.Proofs.YtgnbmjhljlbkhaaDoor
