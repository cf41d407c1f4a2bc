/- Facts on this program: what one draw of the source of draws gives.
   Conditions: none. -/
import Derived.Test.YthflpgckojnbmaaAbB
import Derived.Test.YthflpgckojnbmaaBase
open Go.Ab
set_option linter.unusedVariables false
set_option linter.unusedSimpArgs false
namespace Go.Proofs.Ythflpgckojnbmaa

/-! ### (*l1Src).N -/
set_option maxRecDepth 100000 in
theorem some32_2000000000 (M : Mem) (b off n c : Nat) (i x : Int) (g : Bool) (e : Nat) :
   evFU Try.prog M (ovStd Try.prog M) [24, 25] [] [] [15] 200 Try.f32 [.pointer (some ⟨0, 0, some 3⟩), .int .i64 2000000000] [⟨[.slice (some ⟨b, off, none⟩) n c, .int .i64 i, .int .u64 x], g, e, false⟩] [true]
   = some ((.int .i64 (nR (nX x (IntKind.wrap .u64 (IntKind.wrap .u64 (vint ((M b (off + i.toNat * 1)).getD undef)) + 1))) 2000000000),
       [⟨[.slice (some ⟨b, off, none⟩) n c, .int .i64 (IntKind.wrap .i64 (i + 1)), .int .u64 (nX x (IntKind.wrap .u64 (IntKind.wrap .u64 (vint ((M b (off + i.toNat * 1)).getD undef)) + 1)))], g, e, false⟩], []),
      [(decide (i < (n : Int)), true), (inB i n, true), (roB .u8 M b (off + i.toNat * 1), true)]) := by kernel_rfl
set_option maxRecDepth 100000 in
theorem none32_2000000000 (M : Mem) (b off n c : Nat) (i x : Int) (g : Bool) (e : Nat) :
   evFU Try.prog M (ovStd Try.prog M) [] [] [] [15] 200 Try.f32 [.pointer (some ⟨0, 0, some 3⟩), .int .i64 2000000000] [⟨[.slice (some ⟨b, off, none⟩) n c, .int .i64 i, .int .u64 x], g, e, false⟩] [false]
   = some ((.int .i64 (nR (nX x 0) 2000000000), [⟨[.slice (some ⟨b, off, none⟩) n c, .int .i64 i, .int .u64 (nX x 0)], g, e, false⟩], []), [(decide (i < (n : Int)), false)]) := by kernel_rfl
set_option maxRecDepth 100000 in
theorem nil32_2000000000 (M : Mem) (i x : Int) (g : Bool) (e : Nat) :
   evFU Try.prog M (ovStd Try.prog M) [] [] [] [15] 200 Try.f32 [.pointer (some ⟨0, 0, some 3⟩), .int .i64 2000000000] [⟨[.slice none 0 0, .int .i64 i, .int .u64 x], g, e, false⟩] [false]
   = some ((.int .i64 (nR (nX x 0) 2000000000), [⟨[.slice none 0 0, .int .i64 i, .int .u64 (nX x 0)], g, e, false⟩], []), [(decide (i < ((0 : Nat) : Int)), false)]) := by kernel_rfl

set_option maxRecDepth 100000 in
theorem some32_1000000000 (M : Mem) (b off n c : Nat) (i x : Int) (g : Bool) (e : Nat) :
   evFU Try.prog M (ovStd Try.prog M) [24, 25] [] [] [15] 200 Try.f32 [.pointer (some ⟨0, 0, some 3⟩), .int .i64 1000000000] [⟨[.slice (some ⟨b, off, none⟩) n c, .int .i64 i, .int .u64 x], g, e, false⟩] [true]
   = some ((.int .i64 (nR (nX x (IntKind.wrap .u64 (IntKind.wrap .u64 (vint ((M b (off + i.toNat * 1)).getD undef)) + 1))) 1000000000),
       [⟨[.slice (some ⟨b, off, none⟩) n c, .int .i64 (IntKind.wrap .i64 (i + 1)), .int .u64 (nX x (IntKind.wrap .u64 (IntKind.wrap .u64 (vint ((M b (off + i.toNat * 1)).getD undef)) + 1)))], g, e, false⟩], []),
      [(decide (i < (n : Int)), true), (inB i n, true), (roB .u8 M b (off + i.toNat * 1), true)]) := by kernel_rfl
set_option maxRecDepth 100000 in
theorem none32_1000000000 (M : Mem) (b off n c : Nat) (i x : Int) (g : Bool) (e : Nat) :
   evFU Try.prog M (ovStd Try.prog M) [] [] [] [15] 200 Try.f32 [.pointer (some ⟨0, 0, some 3⟩), .int .i64 1000000000] [⟨[.slice (some ⟨b, off, none⟩) n c, .int .i64 i, .int .u64 x], g, e, false⟩] [false]
   = some ((.int .i64 (nR (nX x 0) 1000000000), [⟨[.slice (some ⟨b, off, none⟩) n c, .int .i64 i, .int .u64 (nX x 0)], g, e, false⟩], []), [(decide (i < (n : Int)), false)]) := by kernel_rfl
set_option maxRecDepth 100000 in
theorem nil32_1000000000 (M : Mem) (i x : Int) (g : Bool) (e : Nat) :
   evFU Try.prog M (ovStd Try.prog M) [] [] [] [15] 200 Try.f32 [.pointer (some ⟨0, 0, some 3⟩), .int .i64 1000000000] [⟨[.slice none 0 0, .int .i64 i, .int .u64 x], g, e, false⟩] [false]
   = some ((.int .i64 (nR (nX x 0) 1000000000), [⟨[.slice none 0 0, .int .i64 i, .int .u64 (nX x 0)], g, e, false⟩], []), [(decide (i < ((0 : Nat) : Int)), false)]) := by kernel_rfl

set_option maxRecDepth 100000 in
theorem some32_100000000 (M : Mem) (b off n c : Nat) (i x : Int) (g : Bool) (e : Nat) :
   evFU Try.prog M (ovStd Try.prog M) [24, 25] [] [] [15] 200 Try.f32 [.pointer (some ⟨0, 0, some 3⟩), .int .i64 100000000] [⟨[.slice (some ⟨b, off, none⟩) n c, .int .i64 i, .int .u64 x], g, e, false⟩] [true]
   = some ((.int .i64 (nR (nX x (IntKind.wrap .u64 (IntKind.wrap .u64 (vint ((M b (off + i.toNat * 1)).getD undef)) + 1))) 100000000),
       [⟨[.slice (some ⟨b, off, none⟩) n c, .int .i64 (IntKind.wrap .i64 (i + 1)), .int .u64 (nX x (IntKind.wrap .u64 (IntKind.wrap .u64 (vint ((M b (off + i.toNat * 1)).getD undef)) + 1)))], g, e, false⟩], []),
      [(decide (i < (n : Int)), true), (inB i n, true), (roB .u8 M b (off + i.toNat * 1), true)]) := by kernel_rfl
set_option maxRecDepth 100000 in
theorem none32_100000000 (M : Mem) (b off n c : Nat) (i x : Int) (g : Bool) (e : Nat) :
   evFU Try.prog M (ovStd Try.prog M) [] [] [] [15] 200 Try.f32 [.pointer (some ⟨0, 0, some 3⟩), .int .i64 100000000] [⟨[.slice (some ⟨b, off, none⟩) n c, .int .i64 i, .int .u64 x], g, e, false⟩] [false]
   = some ((.int .i64 (nR (nX x 0) 100000000), [⟨[.slice (some ⟨b, off, none⟩) n c, .int .i64 i, .int .u64 (nX x 0)], g, e, false⟩], []), [(decide (i < (n : Int)), false)]) := by kernel_rfl
set_option maxRecDepth 100000 in
theorem nil32_100000000 (M : Mem) (i x : Int) (g : Bool) (e : Nat) :
   evFU Try.prog M (ovStd Try.prog M) [] [] [] [15] 200 Try.f32 [.pointer (some ⟨0, 0, some 3⟩), .int .i64 100000000] [⟨[.slice none 0 0, .int .i64 i, .int .u64 x], g, e, false⟩] [false]
   = some ((.int .i64 (nR (nX x 0) 100000000), [⟨[.slice none 0 0, .int .i64 i, .int .u64 (nX x 0)], g, e, false⟩], []), [(decide (i < ((0 : Nat) : Int)), false)]) := by kernel_rfl

set_option maxRecDepth 100000 in
theorem some32_4 (M : Mem) (b off n c : Nat) (i x : Int) (g : Bool) (e : Nat) :
   evFU Try.prog M (ovStd Try.prog M) [24, 25] [] [] [15] 200 Try.f32 [.pointer (some ⟨0, 0, some 3⟩), .int .i64 4] [⟨[.slice (some ⟨b, off, none⟩) n c, .int .i64 i, .int .u64 x], g, e, false⟩] [true]
   = some ((.int .i64 (nR (nX x (IntKind.wrap .u64 (IntKind.wrap .u64 (vint ((M b (off + i.toNat * 1)).getD undef)) + 1))) 4),
       [⟨[.slice (some ⟨b, off, none⟩) n c, .int .i64 (IntKind.wrap .i64 (i + 1)), .int .u64 (nX x (IntKind.wrap .u64 (IntKind.wrap .u64 (vint ((M b (off + i.toNat * 1)).getD undef)) + 1)))], g, e, false⟩], []),
      [(decide (i < (n : Int)), true), (inB i n, true), (roB .u8 M b (off + i.toNat * 1), true)]) := by kernel_rfl
set_option maxRecDepth 100000 in
theorem none32_4 (M : Mem) (b off n c : Nat) (i x : Int) (g : Bool) (e : Nat) :
   evFU Try.prog M (ovStd Try.prog M) [] [] [] [15] 200 Try.f32 [.pointer (some ⟨0, 0, some 3⟩), .int .i64 4] [⟨[.slice (some ⟨b, off, none⟩) n c, .int .i64 i, .int .u64 x], g, e, false⟩] [false]
   = some ((.int .i64 (nR (nX x 0) 4), [⟨[.slice (some ⟨b, off, none⟩) n c, .int .i64 i, .int .u64 (nX x 0)], g, e, false⟩], []), [(decide (i < (n : Int)), false)]) := by kernel_rfl
set_option maxRecDepth 100000 in
theorem nil32_4 (M : Mem) (i x : Int) (g : Bool) (e : Nat) :
   evFU Try.prog M (ovStd Try.prog M) [] [] [] [15] 200 Try.f32 [.pointer (some ⟨0, 0, some 3⟩), .int .i64 4] [⟨[.slice none 0 0, .int .i64 i, .int .u64 x], g, e, false⟩] [false]
   = some ((.int .i64 (nR (nX x 0) 4), [⟨[.slice none 0 0, .int .i64 i, .int .u64 (nX x 0)], g, e, false⟩], []), [(decide (i < ((0 : Nat) : Int)), false)]) := by kernel_rfl

set_option maxRecDepth 100000 in
theorem some32_3 (M : Mem) (b off n c : Nat) (i x : Int) (g : Bool) (e : Nat) :
   evFU Try.prog M (ovStd Try.prog M) [24, 25] [] [] [15] 200 Try.f32 [.pointer (some ⟨0, 0, some 3⟩), .int .i64 3] [⟨[.slice (some ⟨b, off, none⟩) n c, .int .i64 i, .int .u64 x], g, e, false⟩] [true]
   = some ((.int .i64 (nR (nX x (IntKind.wrap .u64 (IntKind.wrap .u64 (vint ((M b (off + i.toNat * 1)).getD undef)) + 1))) 3),
       [⟨[.slice (some ⟨b, off, none⟩) n c, .int .i64 (IntKind.wrap .i64 (i + 1)), .int .u64 (nX x (IntKind.wrap .u64 (IntKind.wrap .u64 (vint ((M b (off + i.toNat * 1)).getD undef)) + 1)))], g, e, false⟩], []),
      [(decide (i < (n : Int)), true), (inB i n, true), (roB .u8 M b (off + i.toNat * 1), true)]) := by kernel_rfl
set_option maxRecDepth 100000 in
theorem none32_3 (M : Mem) (b off n c : Nat) (i x : Int) (g : Bool) (e : Nat) :
   evFU Try.prog M (ovStd Try.prog M) [] [] [] [15] 200 Try.f32 [.pointer (some ⟨0, 0, some 3⟩), .int .i64 3] [⟨[.slice (some ⟨b, off, none⟩) n c, .int .i64 i, .int .u64 x], g, e, false⟩] [false]
   = some ((.int .i64 (nR (nX x 0) 3), [⟨[.slice (some ⟨b, off, none⟩) n c, .int .i64 i, .int .u64 (nX x 0)], g, e, false⟩], []), [(decide (i < (n : Int)), false)]) := by kernel_rfl
set_option maxRecDepth 100000 in
theorem nil32_3 (M : Mem) (i x : Int) (g : Bool) (e : Nat) :
   evFU Try.prog M (ovStd Try.prog M) [] [] [] [15] 200 Try.f32 [.pointer (some ⟨0, 0, some 3⟩), .int .i64 3] [⟨[.slice none 0 0, .int .i64 i, .int .u64 x], g, e, false⟩] [false]
   = some ((.int .i64 (nR (nX x 0) 3), [⟨[.slice none 0 0, .int .i64 i, .int .u64 (nX x 0)], g, e, false⟩], []), [(decide (i < ((0 : Nat) : Int)), false)]) := by kernel_rfl

/-- A draw. -/
def nSum32 (M : Mem) : Sum :=
  { f := 32, ro := false
    S := fun args os => match args, os with
      | [.pointer (some ⟨0, 0, some 3⟩), .int .i64 k], [⟨[.slice (some ⟨b, off, none⟩) n c, .int .i64 i, .int .u64 x], g, e, false⟩] =>
          if [2000000000, 1000000000, 100000000, 4, 3].contains k then some (.int .i64 (nR (nX x (nC M (some ⟨b, off, none⟩) n i)) k), [⟨[.slice (some ⟨b, off, none⟩) n c, .int .i64 (nI n i), .int .u64 (nX x (nC M (some ⟨b, off, none⟩) n i))], g, e, false⟩], []) else none
      | [.pointer (some ⟨0, 0, some 3⟩), .int .i64 k], [⟨[.slice none 0 0, .int .i64 i, .int .u64 x], g, e, false⟩] =>
          if [2000000000, 1000000000, 100000000, 4, 3].contains k then some (.int .i64 (nR (nX x 0) k), [⟨[.slice none 0 0, .int .i64 i, .int .u64 (nX x 0)], g, e, false⟩], []) else none
      | _, _ => none
    C := fun args os => match os with
      | [⟨[.slice u n c, .int .i64 i, .int .u64 x], g, e, false⟩] => [(nOk M u n, true), (decide (0 ≤ i), true)]
      | _ => [] }

theorem nSum32_sound (M : Mem) : (nSum32 M).SoundC Try.prog M := by
  refine sumC_sound Try.func32 (by kernel_rfl) (by kernel_rfl) fun args os v os' ns hs hp => ?_
  simp only [nSum32] at hs hp ⊢
  split at hs
  · rename_i k b off n c i x g e
    split at hs
    · rename_i hk
      cases hs
      have h1 : nOk M (some ⟨b, off, none⟩) n = true := hp (nOk M (some ⟨b, off, none⟩) n, true) (List.Mem.head _)
      have h2 : 0 ≤ i := by have := hp (decide (0 ≤ i), true) (List.Mem.tail _ (List.Mem.head _)); simpa using this
      refine ⟨?_, fun h => by cases h⟩
      simp only [List.contains_eq_mem, List.mem_cons, List.not_mem_nil, or_false, decide_eq_true_eq] at hk
      by_cases hi : i < (n : Int)
      · have e1 : nC M (some ⟨b, off, none⟩) n i = IntKind.wrap .u64 (IntKind.wrap .u64 (vint ((M b (off + i.toNat * 1)).getD undef)) + 1) := by simp only [nC, if_pos hi]
        have e2 : nI n i = IntKind.wrap .i64 (i + 1) := by simp only [nI, if_pos hi]
        rw [e1, e2]
        have hh : Held [(decide (i < (n : Int)), true), (inB i n, true), (roB .u8 M b (off + i.toNat * 1), true)] := held_cons (by simpa using hi) (held_cons (by rw [inB_iff]; exact ⟨h2, hi⟩) (held_one (by rw [Nat.mul_one]; exact nOk_at h1 h2 hi)))
        rcases hk with rfl | rfl | rfl | rfl | rfl
        · exact acalls_of_evFU (ovStd_ok _ _) nilC mix Try.func32 (hooksOk_nil _) (some32_2000000000 M b off n c i x g e) hh
        · exact acalls_of_evFU (ovStd_ok _ _) nilC mix Try.func32 (hooksOk_nil _) (some32_1000000000 M b off n c i x g e) hh
        · exact acalls_of_evFU (ovStd_ok _ _) nilC mix Try.func32 (hooksOk_nil _) (some32_100000000 M b off n c i x g e) hh
        · exact acalls_of_evFU (ovStd_ok _ _) nilC mix Try.func32 (hooksOk_nil _) (some32_4 M b off n c i x g e) hh
        · exact acalls_of_evFU (ovStd_ok _ _) nilC mix Try.func32 (hooksOk_nil _) (some32_3 M b off n c i x g e) hh
      · have e1 : nC M (some ⟨b, off, none⟩) n i = 0 := by simp only [nC, if_neg hi]
        have e2 : nI n i = i := by simp only [nI, if_neg hi]
        rw [e1, e2]
        have hh : Held [(decide (i < (n : Int)), false)] := held_one (by simpa using hi)
        rcases hk with rfl | rfl | rfl | rfl | rfl
        · exact acalls_of_evFU (ovStd_ok _ _) nilC mix Try.func32 (hooksOk_nil _) (none32_2000000000 M b off n c i x g e) hh
        · exact acalls_of_evFU (ovStd_ok _ _) nilC mix Try.func32 (hooksOk_nil _) (none32_1000000000 M b off n c i x g e) hh
        · exact acalls_of_evFU (ovStd_ok _ _) nilC mix Try.func32 (hooksOk_nil _) (none32_100000000 M b off n c i x g e) hh
        · exact acalls_of_evFU (ovStd_ok _ _) nilC mix Try.func32 (hooksOk_nil _) (none32_4 M b off n c i x g e) hh
        · exact acalls_of_evFU (ovStd_ok _ _) nilC mix Try.func32 (hooksOk_nil _) (none32_3 M b off n c i x g e) hh
    · cases hs
  · rename_i k i x g e
    split at hs
    · rename_i hk
      cases hs
      have h2 : 0 ≤ i := by have := hp (decide (0 ≤ i), true) (List.Mem.tail _ (List.Mem.head _)); simpa using this
      refine ⟨?_, fun h => by cases h⟩
      simp only [List.contains_eq_mem, List.mem_cons, List.not_mem_nil, or_false, decide_eq_true_eq] at hk
      have hh : Held [(decide (i < ((0 : Nat) : Int)), false)] := held_one (by simp; omega)
      rcases hk with rfl | rfl | rfl | rfl | rfl
      · exact acalls_of_evFU (ovStd_ok _ _) nilC mix Try.func32 (hooksOk_nil _) (nil32_2000000000 M i x g e) hh
      · exact acalls_of_evFU (ovStd_ok _ _) nilC mix Try.func32 (hooksOk_nil _) (nil32_1000000000 M i x g e) hh
      · exact acalls_of_evFU (ovStd_ok _ _) nilC mix Try.func32 (hooksOk_nil _) (nil32_100000000 M i x g e) hh
      · exact acalls_of_evFU (ovStd_ok _ _) nilC mix Try.func32 (hooksOk_nil _) (nil32_4 M i x g e) hh
      · exact acalls_of_evFU (ovStd_ok _ _) nilC mix Try.func32 (hooksOk_nil _) (nil32_3 M i x g e) hh
    · cases hs
  · cases hs

end Go.Proofs.Ythflpgckojnbmaa
