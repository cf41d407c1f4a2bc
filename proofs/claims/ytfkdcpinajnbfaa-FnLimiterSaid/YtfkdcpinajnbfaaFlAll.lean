/- The law FnLimiter: its rounds, its rate, its last test.
   Conditions: named in each. -/
import Derived.Test.YtfkdcpinajnbfaaAbD
import Derived.Test.YtfkdcpinajnbfaaBase
import Derived.Test.YtfkdcpinajnbfaaLim
import Derived.Test.YtfkdcpinajnbfaaSpecAllow
open Go.Ab
set_option linter.unusedVariables false
set_option linter.unusedSimpArgs false
namespace Go.Proofs.Ytfkdcpinajnbfaa
/-! ### (*l1Src).N -/
set_option maxRecDepth 100000 in
theorem dNs1 (M : Mem) (b off n c : Nat) (i x k : Int) (g : Bool) (e : Nat) : evFU Try.prog M (ovD Try.prog M) [24, 25, 55] [] [] [15, 47] 200 Try.f14 [.pointer (some ⟨0, 0, some 3⟩), .int .i64 k] [⟨[.slice (some ⟨b, off, none⟩) n c, .int .i64 i, .int .u64 x], g, e, false⟩] [true, false]
   = some ((.int .i64 (nR (nX x (IntKind.wrap .u64 (IntKind.wrap .u64 (vint ((M b (off + i.toNat * 1)).getD undef)) + 1))) k), [⟨[.slice (some ⟨b, off, none⟩) n c, .int .i64 (IntKind.wrap .i64 (i + 1)), .int .u64 (nX x (IntKind.wrap .u64 (IntKind.wrap .u64 (vint ((M b (off + i.toNat * 1)).getD undef)) + 1)))], g, e, false⟩], []), [(decide (i < (n : Int)), true), (inB i n, true), (roB .u8 M b (off + i.toNat * 1), true), (decide (k ≤ 1), false), (decide (IntKind.wrap .u64 k = 0), false)]) := by kernel_rfl
set_option maxRecDepth 100000 in
theorem dNs0 (M : Mem) (b off n c : Nat) (i x k : Int) (g : Bool) (e : Nat) : evFU Try.prog M (ovD Try.prog M) [24, 25, 55] [] [] [15, 47] 200 Try.f14 [.pointer (some ⟨0, 0, some 3⟩), .int .i64 k] [⟨[.slice (some ⟨b, off, none⟩) n c, .int .i64 i, .int .u64 x], g, e, false⟩] [true, true]
   = some ((.int .i64 0, [⟨[.slice (some ⟨b, off, none⟩) n c, .int .i64 (IntKind.wrap .i64 (i + 1)), .int .u64 (nX x (IntKind.wrap .u64 (IntKind.wrap .u64 (vint ((M b (off + i.toNat * 1)).getD undef)) + 1)))], g, e, false⟩], []), [(decide (i < (n : Int)), true), (inB i n, true), (roB .u8 M b (off + i.toNat * 1), true), (decide (k ≤ 1), true)]) := by kernel_rfl
set_option maxRecDepth 100000 in
theorem dNn1 (M : Mem) (b off n c : Nat) (i x k : Int) (g : Bool) (e : Nat) : evFU Try.prog M (ovD Try.prog M) [24, 25, 55] [] [] [15, 47] 200 Try.f14 [.pointer (some ⟨0, 0, some 3⟩), .int .i64 k] [⟨[.slice (some ⟨b, off, none⟩) n c, .int .i64 i, .int .u64 x], g, e, false⟩] [false, false]
   = some ((.int .i64 (nR (nX x 0) k), [⟨[.slice (some ⟨b, off, none⟩) n c, .int .i64 i, .int .u64 (nX x 0)], g, e, false⟩], []), [(decide (i < (n : Int)), false), (decide (k ≤ 1), false), (decide (IntKind.wrap .u64 k = 0), false)]) := by kernel_rfl
set_option maxRecDepth 100000 in
theorem dNn0 (M : Mem) (b off n c : Nat) (i x k : Int) (g : Bool) (e : Nat) : evFU Try.prog M (ovD Try.prog M) [24, 25, 55] [] [] [15, 47] 200 Try.f14 [.pointer (some ⟨0, 0, some 3⟩), .int .i64 k] [⟨[.slice (some ⟨b, off, none⟩) n c, .int .i64 i, .int .u64 x], g, e, false⟩] [false, true]
   = some ((.int .i64 0, [⟨[.slice (some ⟨b, off, none⟩) n c, .int .i64 i, .int .u64 (nX x 0)], g, e, false⟩], []), [(decide (i < (n : Int)), false), (decide (k ≤ 1), true)]) := by kernel_rfl
set_option maxRecDepth 100000 in
theorem dNz1 (M : Mem) (i x k : Int) (g : Bool) (e : Nat) : evFU Try.prog M (ovD Try.prog M) [24, 25, 55] [] [] [15, 47] 200 Try.f14 [.pointer (some ⟨0, 0, some 3⟩), .int .i64 k] [⟨[.slice none 0 0, .int .i64 i, .int .u64 x], g, e, false⟩] [false, false]
   = some ((.int .i64 (nR (nX x 0) k), [⟨[.slice none 0 0, .int .i64 i, .int .u64 (nX x 0)], g, e, false⟩], []), [(decide (i < ((0 : Nat) : Int)), false), (decide (k ≤ 1), false), (decide (IntKind.wrap .u64 k = 0), false)]) := by kernel_rfl
set_option maxRecDepth 100000 in
theorem dNz0 (M : Mem) (i x k : Int) (g : Bool) (e : Nat) : evFU Try.prog M (ovD Try.prog M) [24, 25, 55] [] [] [15, 47] 200 Try.f14 [.pointer (some ⟨0, 0, some 3⟩), .int .i64 k] [⟨[.slice none 0 0, .int .i64 i, .int .u64 x], g, e, false⟩] [false, true]
   = some ((.int .i64 0, [⟨[.slice none 0 0, .int .i64 i, .int .u64 (nX x 0)], g, e, false⟩], []), [(decide (i < ((0 : Nat) : Int)), false), (decide (k ≤ 1), true)]) := by kernel_rfl
theorem dN (M : Mem) : (nSumG M 14).SoundC Try.prog M := nSumG_sound Try.func14 (by kernel_rfl) (by kernel_rfl)
  (fun b off n c i x k g e h => acalls_of_evFU (ovD_ok _ _) nilC mix Try.func14 (hooksOk_nil _) (dNs1 M b off n c i x k g e) h)
  (fun b off n c i x k g e h => acalls_of_evFU (ovD_ok _ _) nilC mix Try.func14 (hooksOk_nil _) (dNs0 M b off n c i x k g e) h)
  (fun b off n c i x k g e h => acalls_of_evFU (ovD_ok _ _) nilC mix Try.func14 (hooksOk_nil _) (dNn1 M b off n c i x k g e) h)
  (fun b off n c i x k g e h => acalls_of_evFU (ovD_ok _ _) nilC mix Try.func14 (hooksOk_nil _) (dNn0 M b off n c i x k g e) h)
  (fun i x k g e h => acalls_of_evFU (ovD_ok _ _) nilC mix Try.func14 (hooksOk_nil _) (dNz1 M i x k g e) h)
  (fun i x k g e h => acalls_of_evFU (ovD_ok _ _) nilC mix Try.func14 (hooksOk_nil _) (dNz0 M i x k g e) h)
end Go.Proofs.Ytfkdcpinajnbfaa

open Go.Ab
set_option linter.unusedVariables false
set_option linter.unusedSimpArgs false
namespace Go.Proofs.Ytfkdcpinajnbfaa
set_option maxRecDepth 100000
noncomputable def c4 : Code := Try.f4.body.getD .skip
noncomputable def l4 : Code := loopOf 0 c4
noncomputable def x4 : Code := (occ 1 c4).getD 0 .skip
noncomputable def wl4 : Code := loopOf 3 c4
noncomputable def wb4 : Code := (occ 4 c4).getD 0 .skip
noncomputable def ol4 : Code := loopOf 5 c4
noncomputable def ob4 : Code := (occ 6 c4).getD 0 .skip
noncomputable def el4 : Code := loopOf 7 c4
noncomputable def eb4 : Code := (occ 8 c4).getD 0 .skip
noncomputable def fl4 : Code := loopOf 9 c4
noncomputable def fb4 : Code := (occ 10 c4).getD 0 .skip
theorem body4 : Try.f4.body = some c4 := by kernel_rfl
theorem itemsC4 : items c4 = [itemN c4 0, itemN c4 1, itemN c4 2, itemN c4 3, itemN c4 4, itemN c4 5, itemN c4 6, itemN c4 7, itemN c4 8, itemN c4 9, .block 0 (.loop l4), itemN c4 11, .block 7 (.loop el4), itemN c4 13, itemN c4 14] := by kernel_rfl
theorem itemsL4 : items l4 = [itemN l4 0, itemN l4 1, .block 1 x4, itemN l4 3] := by kernel_rfl
theorem itemsX4 : items x4 = [itemN x4 0, itemN x4 1, itemN x4 2, itemN x4 3, itemN x4 4, itemN x4 5, .block 3 (.loop wl4), itemN x4 7, .block 5 (.loop ol4), itemN x4 9, itemN x4 10, itemN x4 11, itemN x4 12, itemN x4 13, itemN x4 14, itemN x4 15, itemN x4 16, itemN x4 17] := by kernel_rfl
theorem itemsWL4 : items wl4 = [itemN wl4 0, itemN wl4 1, .block 4 wb4, itemN wl4 3] := by kernel_rfl
theorem itemsWB4 : items wb4 = [itemN wb4 0, itemN wb4 1, itemN wb4 2] := by kernel_rfl
theorem itemsOL4 : items ol4 = [itemN ol4 0, itemN ol4 1, .block 6 ob4, itemN ol4 3] := by kernel_rfl
theorem itemsOB4 : items ob4 = [itemN ob4 0, itemN ob4 1, itemN ob4 2] := by kernel_rfl
theorem itemsEL4 : items el4 = [itemN el4 0, itemN el4 1, .block 8 eb4, itemN el4 3] := by kernel_rfl
theorem itemsEB4 : items eb4 = [itemN eb4 0, itemN eb4 1, itemN eb4 2, .block 9 (.loop fl4)] := by kernel_rfl
theorem itemsFL4 : items fl4 = [itemN fl4 0, itemN fl4 1, .block 10 fb4, itemN fl4 3] := by kernel_rfl
theorem itemsFB4 : items fb4 = [itemN fb4 0, itemN fb4 1, itemN fb4 2, itemN fb4 3] := by kernel_rfl

/-! ### The loop's state -/
abbrev srcO (u : Option (Nat × Nat)) (n c : Nat) (p : Int × Int) : Option AObj := some ⟨srcC u n c p.2 p.1, false, 1, false⟩
/-- The limiter's buckets: none at first, then the block with this number. -/
def slZ (zz : Bool) (i n : Nat) : Value := bif zz then .slice none 0 0 else .slice (some ⟨i, 0, some (n * 11)⟩) n n
abbrev limO (most sw : Int) (s : Value) : Option AObj := some ⟨[.int .i64 most, .int .i64 sw, s], false, 1, false⟩
abbrev arrs (T K P : List Value) : AHeap := [some ⟨T, true, 1, true⟩, some ⟨K, true, 9, true⟩, some ⟨P, true, 1, true⟩]
abbrev bk1 (D : List Value) : Option AObj := some ⟨D, true, 11, true⟩
abbrev live4 : List Nat := [3, 4, 5, 6, 7, 8, 9]
abbrev v4 (now : Int) (h : Nat) (k : Int) (x : List Value) : List Value := [.pointer (some ⟨0, 0, some 3⟩), .int .i64 now, .pointer (some ⟨1, 0, some 3⟩), .slice (some ⟨2, 0, some h⟩) h h, .slice (some ⟨3, 0, some (h * 9)⟩) h h, .slice (some ⟨4, 0, some h⟩) h h, .int .i64 k] ++ x
/-- The block of the buckets, if there is one. -/
def tlB (zz : Bool) (D : List Value) : AHeap := bif zz then [] else [bk1 D]
end Go.Proofs.Ytfkdcpinajnbfaa

open Go.Ab
set_option linter.unusedVariables false
set_option linter.unusedSimpArgs false
namespace Go.Proofs.Ytfkdcpinajnbfaa
set_option maxRecDepth 100000
def kyD (b : Int) : Key := ⟨4, 1, b, 0, 0, 0, 0, 0, 0⟩
theorem kyD_ok {b : Int} (h : byteB b) : KeyOk (kyD b) := by
  have h0 : byteB 0 := ⟨by decide, by decide⟩
  have h1 : byteB 1 := ⟨by decide, by decide⟩
  have h4 : byteB 4 := ⟨by decide, by decide⟩
  exact ⟨h4, h1, h, h0, h0, h0, h0, h0, h0⟩
section
variable (M : Mem) (u : Option (Nat × Nat)) (n c : Nat) (p : Int × Int)
abbrev dw (M : Mem) (u : Option (Nat × Nat)) (n : Nat) (p : Int × Int) : Nat → Int × Int := drawC M (srcA u) (Go.Ab.lenS u n) p
abbrev dp (M : Mem) (u : Option (Nat × Nat)) (n : Nat) (p : Int × Int) (j : Nat) (k : Int) : Pins := dPin M (srcA u) (Go.Ab.lenS u n) (dw M u n p j) k
/-- The key that is drawn behind j draws. -/
def kyB (M : Mem) (u : Option (Nat × Nat)) (n : Nat) (p : Int × Int) (j : Nat) : Int := IntKind.u8.wrap (nK (IntKind.i64.wrap (1 + nK 6 (dw M u n p (j + 1)).1)) (dw M u n p (j + 2)).1)
variable (most sw now k : Int) (h m : Nat) (T K P D : List Value) (z : Nat → Value) (zz : Bool)
abbrev hp4 (u : Option (Nat × Nat)) (n c : Nat) (p : Int × Int) (most sw : Int) (s : Value) (T K P : List Value) (x : AHeap) : AHeap := srcO u n c p :: limO most sw s :: arrs T K P ++ x
abbrev ptK (zz : Bool) : Value := .pointer (some ⟨bif zz then 5 else 6, 0, some 9⟩)
abbrev kyO (b : Int) : Option AObj := some ⟨kc (kyD b), false, 1, true⟩
theorem fa_a : viewU (live4 ++ [10]) (evL Try.prog M (ovS shT Try.prog M) [] [] [nSumG M 14] [49, 55, 59, 62] 300 [itemN x4 0, itemN x4 1, itemN x4 2] ⟨mkT Try.f4.ntmps live4 (v4 now h k []) z, hp4 u n c p most sw (slZ zz 5 m) T K P (tlB zz D)⟩ [true])
   = some (.normal, v4 (IntKind.wrap .i64 (now + nK 50000000 (dw M u n p 2).1)) h k [ptK zz], hp4 u n c (dw M u n p 4) most sw (slZ zz 5 m) T K P (tlB zz D ++ [kyO (kyB M u n p 2)]), Try.f4.ntmps, dp M u n p 0 6 ++ [(nK 6 (dw M u n p 1).1 == 0, true)] ++ dp M u n p 1 50000000 ++ dp M u n p 2 6 ++ dp M u n p 3 (IntKind.wrap .i64 (1 + nK 6 (dw M u n p 3).1))) := by
  cases zz <;> cases u <;> kernel_rfl
theorem fa_b : viewU (live4 ++ [10]) (evL Try.prog M (ovS shT Try.prog M) [] [] [nSumG M 14] [49, 55, 59, 62] 300 [itemN x4 0, itemN x4 1, itemN x4 2] ⟨mkT Try.f4.ntmps live4 (v4 now h k []) z, hp4 u n c p most sw (slZ zz 5 m) T K P (tlB zz D)⟩ [false, true])
   = some (.normal, v4 (IntKind.wrap .i64 (now + 50000000)) h k [ptK zz], hp4 u n c (dw M u n p 3) most sw (slZ zz 5 m) T K P (tlB zz D ++ [kyO (kyB M u n p 1)]), Try.f4.ntmps, dp M u n p 0 6 ++ [(nK 6 (dw M u n p 1).1 == 0, false), (nK 6 (dw M u n p 1).1 == 1, true)] ++ dp M u n p 1 6 ++ dp M u n p 2 (IntKind.wrap .i64 (1 + nK 6 (dw M u n p 2).1))) := by
  cases zz <;> cases u <;> kernel_rfl
theorem fa_c : viewU (live4 ++ [10]) (evL Try.prog M (ovS shT Try.prog M) [] [] [nSumG M 14] [49, 55, 59, 62] 300 [itemN x4 0, itemN x4 1, itemN x4 2] ⟨mkT Try.f4.ntmps live4 (v4 now h k []) z, hp4 u n c p most sw (slZ zz 5 m) T K P (tlB zz D)⟩ [false, false, true, true])
   = some (.normal, v4 (IntKind.wrap .i64 (now + IntKind.wrap .i64 (IntKind.wrap .i64 (1000000000 + nK 3 (dw M u n p 3).1) - 1))) h k [ptK zz], hp4 u n c (dw M u n p 5) most sw (slZ zz 5 m) T K P (tlB zz D ++ [kyO (kyB M u n p 3)]), Try.f4.ntmps, dp M u n p 0 6 ++ [(nK 6 (dw M u n p 1).1 == 0, false), (nK 6 (dw M u n p 1).1 == 1, false), (nK 6 (dw M u n p 1).1 == 2, true)] ++ dp M u n p 1 4 ++ [(nK 4 (dw M u n p 2).1 == 0, true)] ++ dp M u n p 2 3 ++ dp M u n p 3 6 ++ dp M u n p 4 (IntKind.wrap .i64 (1 + nK 6 (dw M u n p 4).1))) := by
  cases zz <;> cases u <;> kernel_rfl
theorem fa_d : viewU (live4 ++ [10]) (evL Try.prog M (ovS shT Try.prog M) [] [] [nSumG M 14] [49, 55, 59, 62] 300 [itemN x4 0, itemN x4 1, itemN x4 2] ⟨mkT Try.f4.ntmps live4 (v4 now h k []) z, hp4 u n c p most sw (slZ zz 5 m) T K P (tlB zz D)⟩ [false, false, true, false])
   = some (.normal, v4 (now) h k [ptK zz], hp4 u n c (dw M u n p 4) most sw (slZ zz 5 m) T K P (tlB zz D ++ [kyO (kyB M u n p 2)]), Try.f4.ntmps, dp M u n p 0 6 ++ [(nK 6 (dw M u n p 1).1 == 0, false), (nK 6 (dw M u n p 1).1 == 1, false), (nK 6 (dw M u n p 1).1 == 2, true)] ++ dp M u n p 1 4 ++ [(nK 4 (dw M u n p 2).1 == 0, false)] ++ dp M u n p 2 6 ++ dp M u n p 3 (IntKind.wrap .i64 (1 + nK 6 (dw M u n p 3).1))) := by
  cases zz <;> cases u <;> kernel_rfl
theorem fa_e : viewU (live4 ++ [10]) (evL Try.prog M (ovS shT Try.prog M) [] [] [nSumG M 14] [49, 55, 59, 62] 300 [itemN x4 0, itemN x4 1, itemN x4 2] ⟨mkT Try.f4.ntmps live4 (v4 now h k []) z, hp4 u n c p most sw (slZ zz 5 m) T K P (tlB zz D)⟩ [false, false, false])
   = some (.normal, v4 (now) h k [ptK zz], hp4 u n c (dw M u n p 3) most sw (slZ zz 5 m) T K P (tlB zz D ++ [kyO (kyB M u n p 1)]), Try.f4.ntmps, dp M u n p 0 6 ++ [(nK 6 (dw M u n p 1).1 == 0, false), (nK 6 (dw M u n p 1).1 == 1, false), (nK 6 (dw M u n p 1).1 == 2, false)] ++ dp M u n p 1 6 ++ dp M u n p 2 (IntKind.wrap .i64 (1 + nK 6 (dw M u n p 2).1))) := by
  cases zz <;> cases u <;> kernel_rfl
end

/-- What a draw of n+1 numbers says. -/
theorem nK_lt {k x : Int} (hx : 0 ≤ x) (h1 : 1 ≤ k) (h2 : k ≤ 4611686018427387904) : 0 ≤ nK k x ∧ nK k x < k := nK_range hx h1 h2

section
variable {M : Mem} {O : Org} {u : Option (Nat × Nat)} {n c : Nat} {p : Int × Int} {most sw now k : Int} {h m : Nat} {T K P D : List Value} {zz : Bool}
/-- The draws' source is right. -/
structure SrcOk (M : Mem) (u : Option (Nat × Nat)) (n : Nat) (p : Int × Int) : Prop where
  ok : nOk M (srcA u) (Go.Ab.lenS u n) = true
  le : Go.Ab.lenS u n ≤ 1048576
  at_ : 0 ≤ p.2
theorem SrcOk.pin (h : SrcOk M u n p) (j : Nat) {k : Int} (hk : k ≤ 4611686018427387904) : Held (dp M u n p j k) := dPin_held h.ok (drawC_ok h.le h.at_ j) hk
theorem SrcOk.next (h : SrcOk M u n p) (j : Nat) : SrcOk M u n (dw M u n p j) := ⟨h.ok, h.le, drawC_ok h.le h.at_ j⟩
theorem dw_x (M : Mem) (u : Option (Nat × Nat)) (n : Nat) (p : Int × Int) (j : Nat) : 0 ≤ (dw M u n p (j + 1)).1 := drawC_x j
theorem ky_lim (M : Mem) (u : Option (Nat × Nat)) (n : Nat) (p : Int × Int) (j : Nat) : 1 ≤ IntKind.i64.wrap (1 + nK 6 (dw M u n p (j + 1)).1) ∧ IntKind.i64.wrap (1 + nK 6 (dw M u n p (j + 1)).1) ≤ 6 := by
  have := nK_lt (k := 6) (dw_x M u n p j) (by decide) (by decide)
  rw [Ab.wrap_i64 (by omega) (by omega)]
  omega
theorem kyB_byte (M : Mem) (u : Option (Nat × Nat)) (n : Nat) (p : Int × Int) (j : Nat) : byteB (kyB M u n p j) := by
  obtain ⟨h1, h2⟩ := ky_lim M u n p j
  have := nK_lt (k := IntKind.i64.wrap (1 + nK 6 (dw M u n p (j + 1)).1)) (dw_x M u n p (j + 1)) h1 (by omega)
  unfold kyB
  have e := u8_wrap (nK (IntKind.i64.wrap (1 + nK 6 (dw M u n p (j + 1)).1)) (dw M u n p (j + 2)).1)
  exact e

/-- What a round draws: a time that does not fall, and a key. -/
theorem stepA (hs : SrcOk M u n p) (h0 : 0 ≤ now) (h1 : now ≤ 4611686018427387904) {a : Go.Act} {w : World} {Q : Exit → Go.Act → World → Prop} {rest : List Code}
    (hat : AtV M O Try.f4.ntmps live4 (v4 now h k []) (hp4 u n c p most sw (slZ zz 5 m) T K P (tlB zz D)) [] (fun _ _ => False) a w)
    (k1 : ∀ p' now' b, SrcOk M u n p' → now ≤ now' → now' ≤ now + 1000000001 → byteB b → ∀ a1 w1, AtV M O Try.f4.ntmps (live4 ++ [10]) (v4 now' h k [ptK zz]) (hp4 u n c p' most sw (slZ zz 5 m) T K P (tlB zz D ++ [kyO b])) [] (fun _ _ => False) a1 w1 → wpL Try.prog Q rest a1 w1) :
    wpL Try.prog Q (itemN x4 0 :: itemN x4 1 :: itemN x4 2 :: rest) a w := by
  have hl : ∀ s ∈ [nSumG M 14], s.SoundC Try.prog M := consC (dN M) nilC
  have hnm : ∀ b, nmOk [] (hp4 u n c p most sw (slZ zz 5 m) T K P (tlB zz D)) b = true := fun b => rfl
  show wpL Try.prog Q ([itemN x4 0, itemN x4 1, itemN x4 2] ++ rest) a w
  by_cases e0 : nK 6 (dw M u n p 1).1 = 0
  · have hr : 0 ≤ nK 50000000 (dw M u n p 2).1 ∧ nK 50000000 (dw M u n p 2).1 < 50000000 := nK_lt (dw_x M u n p 1) (by decide) (by decide)
    refine hat.items (ovS_ok shT _ _) hl mix (fun c _ => hooksOk_nil c) (fun z => fa_a M u n c p most sw now k h m T K P D z zz) (held_two (held_two (held_two (held_two (hs.pin 0 (by decide)) (held_one (by simpa using e0))) (hs.pin 1 (by decide))) (hs.pin 2 (by decide))) (hs.pin 3 (by have := ky_lim M u n p 2; simp only [Nat.reduceAdd] at this; omega))) rfl (fun _ a1 w1 h2 => ?_) fun hne => absurd rfl hne
    exact k1 _ _ _ (hs.next 4) (by rw [Ab.wrap_i64 (by omega) (by omega)]; omega) (by rw [Ab.wrap_i64 (by omega) (by omega)]; omega) (kyB_byte M u n p 2) a1 w1 h2
  by_cases e1 : nK 6 (dw M u n p 1).1 = 1
  · refine hat.items (ovS_ok shT _ _) hl mix (fun c _ => hooksOk_nil c) (fun z => fa_b M u n c p most sw now k h m T K P D z zz) (held_two (held_two (held_two (hs.pin 0 (by decide)) (held_cons (by simpa using e0) (held_one (by simpa using e1)))) (hs.pin 1 (by decide))) (hs.pin 2 (by have := ky_lim M u n p 1; simp only [Nat.reduceAdd] at this; omega))) rfl (fun _ a1 w1 h2 => ?_) fun hne => absurd rfl hne
    exact k1 _ _ _ (hs.next 3) (by rw [Ab.wrap_i64 (by omega) (by omega)]; omega) (by rw [Ab.wrap_i64 (by omega) (by omega)]; omega) (kyB_byte M u n p 1) a1 w1 h2
  by_cases e2 : nK 6 (dw M u n p 1).1 = 2
  · by_cases e3 : nK 4 (dw M u n p 2).1 = 0
    · have hr : 0 ≤ nK 3 (dw M u n p 3).1 ∧ nK 3 (dw M u n p 3).1 < 3 := nK_lt (dw_x M u n p 2) (by decide) (by decide)
      refine hat.items (ovS_ok shT _ _) hl mix (fun c _ => hooksOk_nil c) (fun z => fa_c M u n c p most sw now k h m T K P D z zz) (held_two (held_two (held_two (held_two (held_two (held_two (hs.pin 0 (by decide)) (held_cons (by simpa using e0) (held_cons (by simpa using e1) (held_one (by simpa using e2))))) (hs.pin 1 (by decide))) (held_one (by simpa using e3))) (hs.pin 2 (by decide))) (hs.pin 3 (by decide))) (hs.pin 4 (by have := ky_lim M u n p 3; simp only [Nat.reduceAdd] at this; omega))) rfl (fun _ a1 w1 h2 => ?_) fun hne => absurd rfl hne
      have ew : IntKind.i64.wrap (now + IntKind.i64.wrap (IntKind.i64.wrap (1000000000 + nK 3 (dw M u n p 3).1) - 1)) = now + (1000000000 + nK 3 (dw M u n p 3).1 - 1) := by
        rw [Ab.wrap_i64 (n := 1000000000 + nK 3 (dw M u n p 3).1) (by omega) (by omega), Ab.wrap_i64 (n := 1000000000 + nK 3 (dw M u n p 3).1 - 1) (by omega) (by omega), Ab.wrap_i64 (by omega) (by omega)]
      exact k1 _ _ _ (hs.next 5) (by rw [ew]; omega) (by rw [ew]; omega) (kyB_byte M u n p 3) a1 w1 h2
    · refine hat.items (ovS_ok shT _ _) hl mix (fun c _ => hooksOk_nil c) (fun z => fa_d M u n c p most sw now k h m T K P D z zz) (held_two (held_two (held_two (held_two (held_two (hs.pin 0 (by decide)) (held_cons (by simpa using e0) (held_cons (by simpa using e1) (held_one (by simpa using e2))))) (hs.pin 1 (by decide))) (held_one (by simpa using e3))) (hs.pin 2 (by decide))) (hs.pin 3 (by have := ky_lim M u n p 2; simp only [Nat.reduceAdd] at this; omega))) rfl (fun _ a1 w1 h2 => ?_) fun hne => absurd rfl hne
      exact k1 _ _ _ (hs.next 4) (Int.le_refl _) (by omega) (kyB_byte M u n p 2) a1 w1 h2
  · refine hat.items (ovS_ok shT _ _) hl mix (fun c _ => hooksOk_nil c) (fun z => fa_e M u n c p most sw now k h m T K P D z zz) (held_two (held_two (held_two (hs.pin 0 (by decide)) (held_cons (by simpa using e0) (held_cons (by simpa using e1) (held_one (by simpa using e2))))) (hs.pin 1 (by decide))) (hs.pin 2 (by have := ky_lim M u n p 1; simp only [Nat.reduceAdd] at this; omega))) rfl (fun _ a1 w1 h2 => ?_) fun hne => absurd rfl hne
    exact k1 _ _ _ (hs.next 3) (Int.le_refl _) (by omega) (kyB_byte M u n p 1) a1 w1 h2
end
end Go.Proofs.Ytfkdcpinajnbfaa

open Go.Ab
set_option linter.unusedVariables false
set_option linter.unusedSimpArgs false
namespace Go.Proofs.Ytfkdcpinajnbfaa
set_option maxRecDepth 100000
abbrev live5 : List Nat := live4 ++ [10]
abbrev ptY : Value := .pointer (some ⟨5, 0, some 9⟩)
abbrev ptW : Value := .pointer (some ⟨8, 0, some 3⟩)
abbrev live6 : List Nat := live5 ++ [11, 12]
/-- What the reference answers, with its buckets in the block with this number. -/
abbrev ansO (i : Nat) (most sw now : Int) (W : List Bk) : List (Option AObj) := [bk1 (rowsL W), limO most (swB sw now) (.slice (some ⟨i, 0, some (W.length * 11)⟩) W.length W.length)]
/-- The heap behind the question to the reference: the key, the limiter's buckets, the answer. -/
abbrev hq4 (u : Option (Nat × Nat)) (n c : Nat) (p : Int × Int) (most sw now : Int) (zz : Bool) (T K P : List Value) (kb : Int) (L W : List Bk) (x : AHeap) : AHeap :=
  hp4 u n c p most sw (slZ zz 6 L.length) T K P ([kyO kb, bk1 (rowsL L)] ++ ansO 7 most sw now W ++ x)
section
variable (M : Mem) (u : Option (Nat × Nat)) (n c : Nat) (p : Int × Int) (most sw now k kb : Int) (h m : Nat) (T K P D : List Value) (z : Nat → Value)
theorem fb_S : viewU live6 (evL Try.prog M (ovX Try.prog M) [84] [] [allowSum 6 true] [] 300 [itemN x4 3] ⟨mkT Try.f4.ntmps live5 (v4 now h k [ptY]) z, hp4 u n c p most sw (slZ false 6 m) T K P [kyO kb, bk1 D]⟩ [])
   = some (.normal, v4 now h k [ptY, .pointer (some ⟨9, 0, some 3⟩), .bool (alB most sw now (kyD kb) (D.take (m * 11)) (0 + m))], hp4 u n c p most sw (slZ false 6 m) T K P [kyO kb, bk1 D, bk1 (D.take (m * 11)), bk1 (rowsL (alR most sw now (kyD kb) (D.take (m * 11)) (0 + m))), limO most (swB sw now) (.slice (some ⟨8, 0, some ((alR most sw now (kyD kb) (D.take (m * 11)) (0 + m)).length * 11)⟩) (alR most sw now (kyD kb) (D.take (m * 11)) (0 + m)).length (alR most sw now (kyD kb) (D.take (m * 11)) (0 + m)).length)], Try.f4.ntmps,
      [(room (0 + m) 32 && (okC true (D.take (m * 11)) true && (decide (D.length = m * 11) && (decide (0 + m * 11 ≤ m * 11) && decide (m ≤ m)))), true), (fact (AllowF most sw now (kyD kb) (D.take (m * 11)) ((0 + m) * 11) (0 + m) true), true)]) := by
  cases u <;> kernel_rfl
theorem fb_Z : viewU live6 (evL Try.prog M (ovX Try.prog M) [] [] [allowSum 6 true] [] 300 [itemN x4 3] ⟨mkT Try.f4.ntmps live5 (v4 now h k [ptY]) z, hp4 u n c p most sw (.slice none 0 0) T K P [kyO kb]⟩ [])
   = some (.normal, v4 now h k [ptY, ptW, .bool (alB most sw now (kyD kb) [] 0)], hp4 u n c p most sw (.slice none 0 0) T K P [kyO kb, bk1 [], bk1 (rowsL (alR most sw now (kyD kb) [] 0)), limO most (swB sw now) (.slice (some ⟨7, 0, some ((alR most sw now (kyD kb) [] 0).length * 11)⟩) (alR most sw now (kyD kb) [] 0).length (alR most sw now (kyD kb) [] 0).length)], Try.f4.ntmps,
      [(fact (AllowF most sw now (kyD kb) [] 0 0 true), true)]) := by
  cases u <;> kernel_rfl
end

section
variable {M : Mem} {O : Org} {u : Option (Nat × Nat)} {n c : Nat} {p : Int × Int} {most sw now k kb : Int} {h : Nat} {T K P : List Value} {L : List Bk} {zz : Bool}
/-- The reference is asked. -/
theorem stepB (hO : O.h = []) (hv : ValidL most sw now L) (hnow : now ≤ 9223372036854775807) (hkb : byteB kb) (hks : ∀ b ∈ L, KeyOk b.k) (hz : zz = true → L = []) {a : Go.Act} {w : World} {Q : Exit → Go.Act → World → Prop} {rest : List Code}
    (hat : AtV M O Try.f4.ntmps (live4 ++ [10]) (v4 now h k [ptK zz]) (hp4 u n c p most sw (slZ zz 5 L.length) T K P (tlB zz (rowsL L) ++ [kyO kb])) [] (fun _ _ => False) a w)
    (k1 : ∀ a1 w1, AtV M O Try.f4.ntmps live6 (v4 now h k [ptY, ptW, .bool (allowL most sw now (kyD kb) L).1]) (hq4 u n c p most sw now zz T K P kb L (allowL most sw now (kyD kb) L).2 []) [] (fun _ _ => False) a1 w1 → wpL Try.prog Q rest a1 w1) :
    wpL Try.prog Q (itemN x4 3 :: rest) a w := by
  have hl : ∀ s ∈ [allowSum 6 true], s.SoundC Try.prog M := consC (specSs M true) nilC
  have hkeep : ∀ (l : List Nat) k, k < O.h.length → l[k]? = some k := fun l k hk => by rw [hO] at hk; exact absurd hk (by simp)
  show wpL Try.prog Q ([itemN x4 3] ++ rest) a w
  have hn : L.length ≤ 4096 := by have := hv.1.h2; have := hv.1.h3; omega
  cases zz with
  | true =>
    obtain rfl := hz rfl
    have hA : fact (AllowF most sw now (kyD kb) [] 0 0 true) = true := fact_iff.2 ⟨rfl, hnow, kyD_ok hkb, [], rfl, rfl, fun b hb => by (cases hb), iff_of_true hv rfl⟩
    refine hat.items (ovX_ok _ _) hl mix (fun c _ => hooksOk_nil c) (fun z => fb_Z M u n c p most sw now k kb h T K P z) (held_one hA) rfl (fun _ a1 w1 h1 => k1 a1 w1 ?_) fun hne => absurd rfl hne
    have e1 : lsR [] 0 = [] := rfl
    simp only [alR, alB, e1] at h1
    exact h1
  | false =>
    have h0 : AtV M O Try.f4.ntmps live5 (v4 now h k [ptY]) (hp4 u n c p most sw (slZ false 6 L.length) T K P [kyO kb, bk1 (rowsL L)]) [] (fun _ _ => False) a w :=
      hat.compact (keep := [0, 1, 2, 3, 4, 6, 5]) (i0 := 1) (lo := (hp4 u n c p most sw (slZ false 6 L.length) T K P [kyO kb, bk1 (rowsL L)]).filterMap id) (by cases u <;> kernel_rfl) (hkeep _)
    have hD : (rowsL L).length = L.length * 11 := rowsL_length L
    have et : (rowsL L).take (L.length * 11) = rowsL L := List.take_of_length_le (by omega)
    have hA : fact (AllowF most sw now (kyD kb) ((rowsL L).take (L.length * 11)) ((0 + L.length) * 11) (0 + L.length) true) = true := fact_iff.2 ⟨rfl, hnow, kyD_ok hkb, L, et, by omega, hks, iff_of_true hv rfl⟩
    refine h0.items (ovX_ok _ _) hl mix (fun c _ => hooksOk_nil c) (fun z => fb_S M u n c p most sw now k kb h L.length T K P (rowsL L) z) (held_cons ?_ (held_one hA)) rfl (fun _ a1 w1 h1 => k1 a1 w1 ?_) fun hne => absurd rfl hne
    · rw [room_small (by omega)]
      simp [okC, hD]
    · have e1 : lsR ((rowsL L).take (L.length * 11)) (0 + L.length) = L := by rw [et]; exact lsR_rows (by omega)
      simp only [alR, alB, e1] at h1
      exact h1.compact (keep := [0, 1, 2, 3, 4, 5, 6, 8, 9]) (i0 := 1) (lo := (hq4 u n c p most sw now false T K P kb L (allowL most sw now (kyD kb) L).2 []).filterMap id) (by cases u <;> kernel_rfl) (hkeep _)
end
end Go.Proofs.Ytfkdcpinajnbfaa

open Go.Ab
set_option linter.unusedVariables false
set_option linter.unusedSimpArgs false
namespace Go.Proofs.Ytfkdcpinajnbfaa
set_option maxRecDepth 100000
abbrev v6l (now : Int) (h : Nat) (k : Int) (ok : Bool) (x : List Value) : List Value := v4 now h k ([ptY, ptW, .bool ok] ++ x)
abbrev slB (i n : Nat) : Value := .slice (some ⟨i, 0, some (n * 11)⟩) n n
abbrev liveW : List Nat := live6 ++ [13, 92, 93, 94]
abbrev liveO : List Nat := live6 ++ [13, 104, 105, 106]
/-- One bucket behind a loop: the number that is kept. -/
def inS (key : Key) (d : Int) (b : Bk) : Int := if b.k = key then 0 else d
def idS (now : Int) (key : Key) (d : Int) (b : Bk) : Int := if b.k = key then IntKind.i64.wrap (now - b.last) else d
section
variable (M : Mem) (u : Option (Nat × Nat)) (n c : Nat) (p : Int × Int) (most sw now k kb d : Int) (h m i j : Nat) (ok : Bool) (T K P D E : List Value) (z : Nat → Value) (s s' : Value) (b : Bk)
abbrev hr4 (u : Option (Nat × Nat)) (n c : Nat) (p : Int × Int) (most sw : Int) (s : Value) (T K P : List Value) (kb : Int) (D E : List Value) (s' : Value) (most' sw' : Int) (x : AHeap) : AHeap := hp4 u n c p most sw s T K P ([kyO kb, bk1 D, bk1 E, limO most' sw' s'] ++ x)
variable (most' sw' : Int)
theorem fw_h : viewU liveW (evL Try.prog M (ovS shT Try.prog M) [] [] [] [] 300 [itemN x4 4, itemN x4 5] ⟨mkT Try.f4.ntmps live6 (v6l now h k ok []) z, hr4 u n c p most sw s T K P kb D E (slB 7 m) most' sw' []⟩ [])
   = some (.normal, v6l now h k ok [.int .i64 (-1), slB 7 m, .int .i64 m, .int .i64 0], hr4 u n c p most sw s T K P kb D E (slB 7 m) most' sw' [], Try.f4.ntmps, []) := by kernel_rfl
theorem fw_t (hb : bkAt E (0 + (i : Int).toNat * 11) = b) : viewU liveW (evL Try.prog M (ovS shT Try.prog M) [96, 97] [] [] [95, 101] 300 (items wl4) ⟨mkT Try.f4.ntmps liveW (v6l now h k ok [.int .i64 d, slB 7 m, .int .i64 m, .int .i64 i]) z, hr4 u n c p most sw s T K P kb D E (slB 7 m) most' sw' []⟩ [true, true])
   = some (.normal, v6l now h k ok [.int .i64 0, slB 7 m, .int .i64 m, .int .i64 (IntKind.wrap .i64 ((i : Int) + 1))], hr4 u n c p most sw s T K P kb D E (slB 7 m) most' sw' [some ⟨bc b, false, 1, true⟩], Try.f4.ntmps, [(decide ((i : Int) < (m : Int)), true)] ++ rowPin E m i ++ [(keqB b.k (kyD kb), true)]) := by subst hb; kernel_rfl
theorem fw_f (hb : bkAt E (0 + (i : Int).toNat * 11) = b) : viewU liveW (evL Try.prog M (ovS shT Try.prog M) [96, 97] [] [] [95, 101] 300 (items wl4) ⟨mkT Try.f4.ntmps liveW (v6l now h k ok [.int .i64 d, slB 7 m, .int .i64 m, .int .i64 i]) z, hr4 u n c p most sw s T K P kb D E (slB 7 m) most' sw' []⟩ [true, false])
   = some (.normal, v6l now h k ok [.int .i64 d, slB 7 m, .int .i64 m, .int .i64 (IntKind.wrap .i64 ((i : Int) + 1))], hr4 u n c p most sw s T K P kb D E (slB 7 m) most' sw' [some ⟨bc b, false, 1, true⟩], Try.f4.ntmps, [(decide ((i : Int) < (m : Int)), true)] ++ rowPin E m i ++ [(keqB b.k (kyD kb), false)]) := by subst hb; kernel_rfl
theorem fw_x : viewU liveW (evL Try.prog M (ovS shT Try.prog M) [] [] [] [95] 300 (items wl4) ⟨mkT Try.f4.ntmps liveW (v6l now h k ok [.int .i64 d, slB 7 m, .int .i64 m, .int .i64 i]) z, hr4 u n c p most sw s T K P kb D E (slB 7 m) most' sw' []⟩ [false])
   = some (.exit 3, v6l now h k ok [.int .i64 d, slB 7 m, .int .i64 m, .int .i64 i], hr4 u n c p most sw s T K P kb D E (slB 7 m) most' sw' [], Try.f4.ntmps, [(decide ((i : Int) < (m : Int)), false)]) := by kernel_rfl
theorem fo_h : viewU liveO (evL Try.prog M (ovS shT Try.prog M) [] [] [] [] 300 [itemN x4 7] ⟨mkT Try.f4.ntmps (live6 ++ [13]) (v6l now h k ok [.int .i64 d]) z, hr4 u n c p most sw (slB 6 m) T K P kb D E s' most' sw' []⟩ [])
   = some (.normal, v6l now h k ok [.int .i64 d, slB 6 m, .int .i64 m, .int .i64 0], hr4 u n c p most sw (slB 6 m) T K P kb D E s' most' sw' [], Try.f4.ntmps, []) := by kernel_rfl
theorem fo_z : viewU liveO (evL Try.prog M (ovS shT Try.prog M) [] [] [] [] 300 [itemN x4 7] ⟨mkT Try.f4.ntmps (live6 ++ [13]) (v6l now h k ok [.int .i64 d]) z, hr4 u n c p most sw (.slice none 0 0) T K P kb D E s' most' sw' []⟩ [])
   = some (.normal, v6l now h k ok [.int .i64 d, .slice none 0 0, .int .i64 0, .int .i64 0], hr4 u n c p most sw (.slice none 0 0) T K P kb D E s' most' sw' [], Try.f4.ntmps, []) := by kernel_rfl
theorem fo_t (hb : bkAt D (0 + (i : Int).toNat * 11) = b) : viewU liveO (evL Try.prog M (ovS shT Try.prog M) [108, 109] [] [] [107, 113] 300 (items ol4) ⟨mkT Try.f4.ntmps liveO (v6l now h k ok [.int .i64 d, slB 6 m, .int .i64 m, .int .i64 i]) z, hr4 u n c p most sw (slB 6 m) T K P kb D E s' most' sw' []⟩ [true, true])
   = some (.normal, v6l now h k ok [.int .i64 (IntKind.wrap .i64 (now - b.last)), slB 6 m, .int .i64 m, .int .i64 (IntKind.wrap .i64 ((i : Int) + 1))], hr4 u n c p most sw (slB 6 m) T K P kb D E s' most' sw' [some ⟨bc b, false, 1, true⟩], Try.f4.ntmps, [(decide ((i : Int) < (m : Int)), true)] ++ rowPin D m i ++ [(keqB b.k (kyD kb), true)]) := by subst hb; kernel_rfl
theorem fo_f (hb : bkAt D (0 + (i : Int).toNat * 11) = b) : viewU liveO (evL Try.prog M (ovS shT Try.prog M) [108, 109] [] [] [107, 113] 300 (items ol4) ⟨mkT Try.f4.ntmps liveO (v6l now h k ok [.int .i64 d, slB 6 m, .int .i64 m, .int .i64 i]) z, hr4 u n c p most sw (slB 6 m) T K P kb D E s' most' sw' []⟩ [true, false])
   = some (.normal, v6l now h k ok [.int .i64 d, slB 6 m, .int .i64 m, .int .i64 (IntKind.wrap .i64 ((i : Int) + 1))], hr4 u n c p most sw (slB 6 m) T K P kb D E s' most' sw' [some ⟨bc b, false, 1, true⟩], Try.f4.ntmps, [(decide ((i : Int) < (m : Int)), true)] ++ rowPin D m i ++ [(keqB b.k (kyD kb), false)]) := by subst hb; kernel_rfl
theorem fo_x : viewU liveO (evL Try.prog M (ovS shT Try.prog M) [] [] [] [107] 300 (items ol4) ⟨mkT Try.f4.ntmps liveO (v6l now h k ok [.int .i64 d, s, .int .i64 m, .int .i64 i]) z, hr4 u n c p most sw s T K P kb D E s' most' sw' []⟩ [false])
   = some (.exit 5, v6l now h k ok [.int .i64 d, s, .int .i64 m, .int .i64 i], hr4 u n c p most sw s T K P kb D E s' most' sw' [], Try.f4.ntmps, [(decide ((i : Int) < (m : Int)), false)]) := by kernel_rfl
end

section
variable {M : Mem} {O : Org} {u : Option (Nat × Nat)} {n c : Nat} {p : Int × Int} {most sw now k kb : Int} {h : Nat} {ok : Bool} {T K P : List Value} {L W : List Bk} {zz : Bool}
abbrev H6 (u : Option (Nat × Nat)) (n c : Nat) (p : Int × Int) (most sw now : Int) (zz : Bool) (T K P : List Value) (kb : Int) (L W : List Bk) : AHeap := hr4 u n c p most sw (slZ zz 6 L.length) T K P kb (rowsL L) (rowsL W) (slB 7 W.length) most (swB sw now) []
abbrev IW (M : Mem) (O : Org) (u : Option (Nat × Nat)) (n c : Nat) (p : Int × Int) (most sw now k kb : Int) (h : Nat) (ok : Bool) (T K P : List Value) (L W : List Bk) (zz : Bool) (i : Nat) (a : Go.Act) (w : World) : Prop :=
  AtV M O Try.f4.ntmps liveW (v6l now h k ok [.int .i64 ((W.take i).foldl (inS (kyD kb)) (-1)), slB 7 W.length, .int .i64 W.length, .int .i64 i]) (H6 u n c p most sw now zz T K P kb L W) [] (fun _ _ => False) a w
abbrev IO (M : Mem) (O : Org) (u : Option (Nat × Nat)) (n c : Nat) (p : Int × Int) (most sw now k kb d : Int) (h : Nat) (ok : Bool) (T K P : List Value) (L W : List Bk) (i : Nat) (a : Go.Act) (w : World) : Prop :=
  AtV M O Try.f4.ntmps liveO (v6l now h k ok [.int .i64 ((L.take i).foldl (idS now (kyD kb)) d), slB 6 L.length, .int .i64 L.length, .int .i64 i]) (H6 u n c p most sw now false T K P kb L W) [] (fun _ _ => False) a w

theorem fold_snoc {f : Int → Bk → Int} {d : Int} {L : List Bk} {i : Nat} {b : Bk} (hb : L[i]? = some b) : (L.take (i + 1)).foldl f d = f ((L.take i).foldl f d) b := by
  have hsn : L.take (i + 1) = L.take i ++ [b] := by rw [List.take_add_one, hb]; rfl
  rw [hsn, List.foldl_append]; rfl

theorem stepW (hO : O.h = []) (hW : W.length ≤ 4097) {a : Go.Act} {w : World} {Q : Exit → Go.Act → World → Prop} {rest : List Code}
    (hat : AtV M O Try.f4.ntmps live6 (v6l now h k ok []) (H6 u n c p most sw now zz T K P kb L W) [] (fun _ _ => False) a w)
    (k1 : ∀ a1 w1, AtV M O Try.f4.ntmps (live6 ++ [13]) (v6l now h k ok [.int .i64 (W.foldl (inS (kyD kb)) (-1))]) (H6 u n c p most sw now zz T K P kb L W) [] (fun _ _ => False) a1 w1 → wpL Try.prog Q rest a1 w1) :
    wpL Try.prog Q (itemN x4 4 :: itemN x4 5 :: .block 3 (.loop wl4) :: rest) a w := by
  have hkeep : ∀ (l : List Nat) k, k < O.h.length → l[k]? = some k := fun l k hk => by rw [hO] at hk; exact absurd hk (by simp)
  show wpL Try.prog Q ([itemN x4 4, itemN x4 5] ++ (.block 3 (.loop wl4) :: rest)) a w
  refine hat.items (ovS_ok shT _ _) nilC mix (fun c _ => hooksOk_nil c) (fun z => fw_h M u n c p most sw now k kb h W.length ok T K P (rowsL L) (rowsL W) z _ _ _) (fun x hx => by cases hx) rfl (fun _ a1 w1 h1 => ?_) fun hne => absurd rfl hne
  refine wpL_cons (R := IW M O u n c p most sw now k kb h ok T K P L W zz W.length) (wp_block (wp_loop_idx (IW M O u n c p most sw now k kb h ok T K P L W zz) W.length h1 (fun i a w hi h => ?_) fun a w h => ?_)) fun a2 w2 h2 => ?_
  · obtain ⟨b, hb⟩ : ∃ b, W[i]? = some b := ⟨_, List.getElem?_eq_getElem hi⟩
    show wl4.wp Try.prog (fun e a' w' => e = .normal ∧ AtV M O Try.f4.ntmps liveW (v6l now _ k ok [.int .i64 ((W.take (i + 1)).foldl (inS (kyD kb)) (-1)), slB 7 W.length, .int .i64 W.length, .int .i64 ((i + 1 : Nat) : Int)]) (H6 u n c p most sw now zz T K P kb L W) [] (fun _ _ => False) a' w') a w
    rw [fold_snoc hb]
    refine wp_items wl4 (wpL_end ?_)
    by_cases hk : b.k = kyD kb
    · refine h.items (ovS_ok shT _ _) nilC mix (fun c _ => hooksOk_nil c) (fun z => fw_t M u n c p most sw now k kb _ _ W.length i ok T K P (rowsL L) (rowsL W) z _ b _ _ (bkAt_row hb)) (held_two (held_two (held_one (decide_eq_true (by omega))) (rowPin_held hb)) (held_one (by rw [keqB_eq]; exact decide_eq_true hk))) rfl (fun _ a1 w1 h1 => ⟨rfl, ?_⟩) fun hne => absurd rfl hne
      rw [wrap_next hi (by omega)] at h1
      unfold inS
      rw [if_pos hk]
      exact h1.compact (keep := [0, 1, 2, 3, 4, 5, 6, 7, 8]) (i0 := 1) (lo := (H6 u n c p most sw now zz T K P kb L W).filterMap id) (by cases u <;> cases zz <;> kernel_rfl) (hkeep _)
    · refine h.items (ovS_ok shT _ _) nilC mix (fun c _ => hooksOk_nil c) (fun z => fw_f M u n c p most sw now k kb _ _ W.length i ok T K P (rowsL L) (rowsL W) z _ b _ _ (bkAt_row hb)) (held_two (held_two (held_one (decide_eq_true (by omega))) (rowPin_held hb)) (held_one (by rw [keqB_eq]; exact decide_eq_false hk))) rfl (fun _ a1 w1 h1 => ⟨rfl, ?_⟩) fun hne => absurd rfl hne
      rw [wrap_next hi (by omega)] at h1
      unfold inS
      rw [if_neg hk]
      exact h1.compact (keep := [0, 1, 2, 3, 4, 5, 6, 7, 8]) (i0 := 1) (lo := (H6 u n c p most sw now zz T K P kb L W).filterMap id) (by cases u <;> cases zz <;> kernel_rfl) (hkeep _)
  · refine wp_items wl4 (wpL_end ?_)
    exact h.items (ovS_ok shT _ _) nilC mix (fun c _ => hooksOk_nil c) (fun z => fw_x M u n c p most sw now k kb _ _ W.length W.length ok T K P (rowsL L) (rowsL W) z _ _ _) (held_one (by simp)) rfl (fun he => by cases he) fun _ a2 w2 h2 => ⟨by simp [AExit.to], rfl, h2⟩
  · have h3 := h2.live (live' := live6 ++ [13]) (V' := v6l now h k ok [.int .i64 ((W.take W.length).foldl (inS (kyD kb)) (-1))]) (fun z => by kernel_rfl)
    rw [List.take_length] at h3
    exact k1 a2 w2 h3

theorem stepO (hO : O.h = []) (hL : L.length ≤ 4097) (hz : zz = true → L = []) {d : Int} {a : Go.Act} {w : World} {Q : Exit → Go.Act → World → Prop} {rest : List Code}
    (hat : AtV M O Try.f4.ntmps (live6 ++ [13]) (v6l now h k ok [.int .i64 d]) (H6 u n c p most sw now zz T K P kb L W) [] (fun _ _ => False) a w)
    (k1 : ∀ a1 w1, AtV M O Try.f4.ntmps (live6 ++ [13]) (v6l now h k ok [.int .i64 (L.foldl (idS now (kyD kb)) d)]) (H6 u n c p most sw now zz T K P kb L W) [] (fun _ _ => False) a1 w1 → wpL Try.prog Q rest a1 w1) :
    wpL Try.prog Q (itemN x4 7 :: .block 5 (.loop ol4) :: rest) a w := by
  have hkeep : ∀ (l : List Nat) k, k < O.h.length → l[k]? = some k := fun l k hk => by rw [hO] at hk; exact absurd hk (by simp)
  show wpL Try.prog Q ([itemN x4 7] ++ (.block 5 (.loop ol4) :: rest)) a w
  cases zz with
  | true =>
    obtain rfl := hz rfl
    refine hat.items (ovS_ok shT _ _) nilC mix (fun c _ => hooksOk_nil c) (fun z => fo_z M u n c p most sw now k kb d h ok T K P _ _ z _ _ _) (fun x hx => by cases hx) rfl (fun _ a1 w1 h1 => ?_) fun hne => absurd rfl hne
    refine wpL_cons (R := fun a2 w2 => AtV M O Try.f4.ntmps liveO (v6l now h k ok [.int .i64 d, .slice none 0 0, .int .i64 0, .int .i64 0]) (H6 u n c p most sw now true T K P kb [] W) [] (fun _ _ => False) a2 w2) (wp_block (wp_loop_idx (fun _ a2 w2 => AtV M O Try.f4.ntmps liveO (v6l now h k ok [.int .i64 d, .slice none 0 0, .int .i64 0, .int .i64 0]) (H6 u n c p most sw now true T K P kb [] W) [] (fun _ _ => False) a2 w2) 0 h1 (fun i a w hi h => absurd hi (Nat.not_lt_zero _)) fun a w h => ?_)) fun a2 w2 h2 => ?_
    · refine wp_items ol4 (wpL_end ?_)
      exact h.items (ovS_ok shT _ _) nilC mix (fun c _ => hooksOk_nil c) (fun z => fo_x M u n c p most sw now k kb d _ 0 0 ok T K P _ _ z _ _ _ _) (held_one rfl) rfl (fun he => by cases he) fun _ a2 w2 h2 => ⟨by simp [AExit.to], rfl, h2⟩
    · exact k1 a2 w2 (h2.live (live' := live6 ++ [13]) (V' := v6l now h k ok [.int .i64 d]) (fun z => by kernel_rfl))
  | false =>
    refine hat.items (ovS_ok shT _ _) nilC mix (fun c _ => hooksOk_nil c) (fun z => fo_h M u n c p most sw now k kb d h L.length ok T K P _ _ z _ _ _) (fun x hx => by cases hx) rfl (fun _ a1 w1 h1 => ?_) fun hne => absurd rfl hne
    refine wpL_cons (R := IO M O u n c p most sw now k kb d h ok T K P L W L.length) (wp_block (wp_loop_idx (IO M O u n c p most sw now k kb d h ok T K P L W) L.length h1 (fun i a w hi h => ?_) fun a w h => ?_)) fun a2 w2 h2 => ?_
    · obtain ⟨b, hb⟩ : ∃ b, L[i]? = some b := ⟨_, List.getElem?_eq_getElem hi⟩
      show ol4.wp Try.prog (fun e a' w' => e = .normal ∧ AtV M O Try.f4.ntmps liveO (v6l now _ k ok [.int .i64 ((L.take (i + 1)).foldl (idS now (kyD kb)) d), slB 6 L.length, .int .i64 L.length, .int .i64 ((i + 1 : Nat) : Int)]) (H6 u n c p most sw now false T K P kb L W) [] (fun _ _ => False) a' w') a w
      rw [fold_snoc hb]
      refine wp_items ol4 (wpL_end ?_)
      by_cases hk : b.k = kyD kb
      · refine h.items (ovS_ok shT _ _) nilC mix (fun c _ => hooksOk_nil c) (fun z => fo_t M u n c p most sw now k kb _ _ L.length i ok T K P (rowsL L) (rowsL W) z _ b _ _ (bkAt_row hb)) (held_two (held_two (held_one (decide_eq_true (by omega))) (rowPin_held hb)) (held_one (by rw [keqB_eq]; exact decide_eq_true hk))) rfl (fun _ a1 w1 h1 => ⟨rfl, ?_⟩) fun hne => absurd rfl hne
        rw [wrap_next hi (by omega)] at h1
        unfold idS
        rw [if_pos hk]
        exact h1.compact (keep := [0, 1, 2, 3, 4, 5, 6, 7, 8]) (i0 := 1) (lo := (H6 u n c p most sw now false T K P kb L W).filterMap id) (by cases u <;> kernel_rfl) (hkeep _)
      · refine h.items (ovS_ok shT _ _) nilC mix (fun c _ => hooksOk_nil c) (fun z => fo_f M u n c p most sw now k kb _ _ L.length i ok T K P (rowsL L) (rowsL W) z _ b _ _ (bkAt_row hb)) (held_two (held_two (held_one (decide_eq_true (by omega))) (rowPin_held hb)) (held_one (by rw [keqB_eq]; exact decide_eq_false hk))) rfl (fun _ a1 w1 h1 => ⟨rfl, ?_⟩) fun hne => absurd rfl hne
        rw [wrap_next hi (by omega)] at h1
        unfold idS
        rw [if_neg hk]
        exact h1.compact (keep := [0, 1, 2, 3, 4, 5, 6, 7, 8]) (i0 := 1) (lo := (H6 u n c p most sw now false T K P kb L W).filterMap id) (by cases u <;> kernel_rfl) (hkeep _)
    · refine wp_items ol4 (wpL_end ?_)
      exact h.items (ovS_ok shT _ _) nilC mix (fun c _ => hooksOk_nil c) (fun z => fo_x M u n c p most sw now k kb _ _ L.length L.length ok T K P _ _ z _ _ _ _) (held_one (by simp)) rfl (fun he => by cases he) fun _ a2 w2 h2 => ⟨by simp [AExit.to], rfl, h2⟩
    · have h3 := h2.live (live' := live6 ++ [13]) (V' := v6l now h k ok [.int .i64 ((L.take L.length).foldl (idS now (kyD kb)) d)]) (fun z => by kernel_rfl)
      rw [List.take_length] at h3
      exact k1 a2 w2 h3
end
end Go.Proofs.Ytfkdcpinajnbfaa

open Go.Ab
set_option linter.unusedVariables false
set_option linter.unusedSimpArgs false
namespace Go.Proofs.Ytfkdcpinajnbfaa
set_option maxRecDepth 100000
/-- The program's Allow, of no buckets. -/
noncomputable def allowZS : Sum :=
  { f := 9, ro := true
    S := fun args os => match args, os with
      | [.agg ⟨[.int .i64 most, .int .i64 sw, .slice none 0 0]⟩, .agg ⟨[.int .u8 a0, .int .u8 a1, .int .u8 a2, .int .u8 a3, .int .u8 a4, .int .u8 a5, .int .u8 a6, .int .u8 a7, .int .u8 a8]⟩, .int .i64 now], [] =>
        some (okV most sw now 0 (alR most sw now ⟨a0, a1, a2, a3, a4, a5, a6, a7, a8⟩ [] 0).length (alB most sw now ⟨a0, a1, a2, a3, a4, a5, a6, a7, a8⟩ [] 0), [], [⟨rowsL (alR most sw now ⟨a0, a1, a2, a3, a4, a5, a6, a7, a8⟩ [] 0), true, 11, true⟩])
      | _, _ => none
    C := fun args os => match args, os with
      | [.agg ⟨[.int .i64 most, .int .i64 sw, .slice none 0 0]⟩, .agg ⟨[.int .u8 a0, .int .u8 a1, .int .u8 a2, .int .u8 a3, .int .u8 a4, .int .u8 a5, .int .u8 a6, .int .u8 a7, .int .u8 a8]⟩, .int .i64 now], [] => [(fact (AllowF most sw now ⟨a0, a1, a2, a3, a4, a5, a6, a7, a8⟩ [] 0 0 true), true)]
      | _, _ => [] }
theorem allowZSs (M : Mem) : allowZS.SoundC Try.prog M := by
  refine sumC_sound Try.func9 (by kernel_rfl) (by kernel_rfl) fun args os v os' ns hs hp => ?_
  simp only [allowZS] at hs hp
  split at hs
  · rename_i most sw a0 a1 a2 a3 a4 a5 a6 a7 a8 now
    obtain ⟨_, hnow, hkey, L, hL, hn, hks, hv⟩ := fact_iff.1 (hp _ (List.Mem.head _))
    have : L = [] := List.length_eq_zero_iff.1 hn.symm
    subst this
    cases hs
    refine ⟨acalls_of_G (allowZ hkey) ?_, fun _ => rfl⟩
    have hvv := hv.2 rfl
    rintro v1 o1 n1 g ⟨rfl, ⟨h, _⟩ | ⟨_, rfl, rfl⟩⟩
    · exact absurd hvv h
    · exact ⟨rfl, rfl, rfl⟩
  · cases hs

abbrev live8 : List Nat := live6 ++ [13, 18, 19]
abbrev ptN : Value := .pointer (some ⟨10, 0, some 3⟩)
section
variable (M : Mem) (u : Option (Nat × Nat)) (n c : Nat) (p : Int × Int) (most sw now k kb d : Int) (h m : Nat) (ok ok2 : Bool) (T K P D E : List Value) (z : Nat → Value) (s s' : Value) (most' sw' : Int)
theorem fe_S : viewU live8 (evL Try.prog M (ovS shT Try.prog M) [] [] [allowSum 9 true] [] 300 [itemN x4 9] ⟨mkT Try.f4.ntmps (live6 ++ [13]) (v6l now h k ok [.int .i64 d]) z, hr4 u n c p most sw (slB 6 m) T K P kb D E s' most' sw' []⟩ [])
   = some (.normal, v6l now h k ok [.int .i64 d, ptN, .bool (alB most sw now (kyD kb) D m)], hr4 u n c p most sw (slB 6 m) T K P kb D E s' most' sw' [bk1 (rowsL (alR most sw now (kyD kb) D m)), limO most (swB sw now) (slB 9 (alR most sw now (kyD kb) D m).length)], Try.f4.ntmps, [(fact (AllowF most sw now (kyD kb) D (m * 11) m true), true)]) := by kernel_rfl
theorem fe_Z : viewU live8 (evL Try.prog M (ovS shT Try.prog M) [] [] [allowZS] [] 300 [itemN x4 9] ⟨mkT Try.f4.ntmps (live6 ++ [13]) (v6l now h k ok [.int .i64 d]) z, hr4 u n c p most sw (.slice none 0 0) T K P kb D E s' most' sw' []⟩ [])
   = some (.normal, v6l now h k ok [.int .i64 d, ptN, .bool (alB most sw now (kyD kb) [] 0)], hr4 u n c p most sw (.slice none 0 0) T K P kb D E s' most' sw' [bk1 (rowsL (alR most sw now (kyD kb) [] 0)), limO most (swB sw now) (slB 9 (alR most sw now (kyD kb) [] 0).length)], Try.f4.ntmps, [(fact (AllowF most sw now (kyD kb) [] 0 0 true), true)]) := by kernel_rfl
end

section
variable {M : Mem} {O : Org} {u : Option (Nat × Nat)} {n c : Nat} {p : Int × Int} {most sw now k kb : Int} {h : Nat} {ok : Bool} {T K P : List Value} {L W : List Bk} {zz : Bool}
theorem stepE (hv : ValidL most sw now L) (hnow : now ≤ 9223372036854775807) (hkb : byteB kb) (hks : ∀ b ∈ L, KeyOk b.k) (hz : zz = true → L = []) {d : Int} {a : Go.Act} {w : World} {Q : Exit → Go.Act → World → Prop} {rest : List Code}
    (hat : AtV M O Try.f4.ntmps (live6 ++ [13]) (v6l now h k ok [.int .i64 d]) (H6 u n c p most sw now zz T K P kb L W) [] (fun _ _ => False) a w)
    (k1 : ∀ a1 w1, AtV M O Try.f4.ntmps live8 (v6l now h k ok [.int .i64 d, ptN, .bool (allowL most sw now (kyD kb) L).1]) (hr4 u n c p most sw (slZ zz 6 L.length) T K P kb (rowsL L) (rowsL W) (slB 7 W.length) most (swB sw now) (ansO 9 most sw now (allowL most sw now (kyD kb) L).2)) [] (fun _ _ => False) a1 w1 → wpL Try.prog Q rest a1 w1) :
    wpL Try.prog Q (itemN x4 9 :: rest) a w := by
  show wpL Try.prog Q ([itemN x4 9] ++ rest) a w
  cases zz with
  | true =>
    obtain rfl := hz rfl
    have hA : fact (AllowF most sw now (kyD kb) [] 0 0 true) = true := fact_iff.2 ⟨rfl, hnow, kyD_ok hkb, [], rfl, rfl, fun b hb => by (cases hb), iff_of_true hv rfl⟩
    refine hat.items (ovS_ok shT _ _) (consC (allowZSs M) nilC) mix (fun c _ => hooksOk_nil c) (fun z => fe_Z M u n c p most sw now k kb d h ok T K P _ _ z _ _ _) (held_one hA) rfl (fun _ a1 w1 h1 => k1 a1 w1 ?_) fun hne => absurd rfl hne
    have e1 : lsR [] 0 = [] := rfl
    simp only [alR, alB, e1] at h1
    exact h1
  | false =>
    have hA : fact (AllowF most sw now (kyD kb) (rowsL L) (L.length * 11) L.length true) = true := fact_iff.2 ⟨rfl, hnow, kyD_ok hkb, L, rfl, rfl, hks, iff_of_true hv rfl⟩
    refine hat.items (ovS_ok shT _ _) (consC (implSs M true) nilC) mix (fun c _ => hooksOk_nil c) (fun z => fe_S M u n c p most sw now k kb d h L.length ok T K P _ _ z _ _ _) (held_one hA) rfl (fun _ a1 w1 h1 => k1 a1 w1 ?_) fun hne => absurd rfl hne
    have e1 : lsR (rowsL L) L.length = L := lsR_rows rfl
    simp only [alR, alB, e1] at h1
    exact h1
end
end Go.Proofs.Ytfkdcpinajnbfaa

open Go.Ab
set_option linter.unusedVariables false
set_option linter.unusedSimpArgs false
namespace Go.Proofs.Ytfkdcpinajnbfaa
set_option maxRecDepth 100000
section
variable (M : Mem) (u : Option (Nat × Nat)) (n c : Nat) (p : Int × Int) (most sw now k kb d most' sw' most2 sw2 : Int) (h m1 m2 : Nat) (ok ok2 : Bool) (T K P D E E2 : List Value) (z : Nat → Value) (s : Value)
def apP (h e r : Nat) (T : List Value) : Bool × Bool := (decide (h = h) && (decide (h * e = h * e) && (decide (T.length = h * e) && (room (h + 1) r && true))), true)
def apQ (h r : Nat) (T : List Value) : Bool × Bool := (decide (h = h) && (decide (h = h * 1) && (decide (T.length = h) && (room (h + 1) r && true))), true)
abbrev sameP (ok2 ok : Bool) (m2 m1 : Nat) (sw2 sw' most2 most' : Int) : Pins := [(ok2 != ok, false), ((m2 : Int) != (m1 : Int), false), (sw2 != sw', false), (most2 != most', false)]
abbrev endH (u : Option (Nat × Nat)) (n c : Nat) (p : Int × Int) (now kb most' sw' most2 sw2 : Int) (h m1 m2 : Nat) (ok2 : Bool) (T K P D E E2 : List Value) : AHeap :=
  hr4 u n c p most2 sw2 (slB 9 m2) (T.take (h * 1) ++ [.int .i64 now]) (K.take (h * 9) ++ kc (kyD kb)) (P.take (h * 1) ++ [.bool ok2]) kb D E (slB 7 m1) most' sw' [bk1 E2, limO most2 sw2 (slB 9 m2), some ⟨[.int .i64 now], true, 1, true⟩, some ⟨kc (kyD kb), true, 9, true⟩, some ⟨[.bool ok2], true, 1, true⟩]
abbrev endV (now : Int) (h : Nat) (k : Int) : List Value := [.pointer (some ⟨0, 0, some 3⟩), .int .i64 now, .pointer (some ⟨1, 0, some 3⟩), .slice (some ⟨2, 0, some ((h + 1) * 1)⟩) (h + 1) (h + 1), .slice (some ⟨3, 0, some ((h + 1) * 9)⟩) (h + 1) (h + 1), .slice (some ⟨4, 0, some ((h + 1) * 1)⟩) (h + 1) (h + 1), .int .i64 k]
theorem ff_a : viewU live4 (evL Try.prog M (ovX Try.prog M) [169, 173, 177] [] [] [128, 136, 143, 150, 153, 156, 160, 163] 300 [itemN x4 10, itemN x4 11, itemN x4 12, itemN x4 13, itemN x4 14, itemN x4 15, itemN x4 16, itemN x4 17] ⟨mkT Try.f4.ntmps live8 (v6l now h k ok [.int .i64 d, ptN, .bool ok2]) z, hr4 u n c p most sw s T K P kb D E (slB 7 m1) most' sw' [bk1 E2, limO most2 sw2 (slB 9 m2)]⟩ [false, false, false, false, true, false, false])
   = some (.normal, endV now h k, endH u n c p now kb most' sw' most2 sw2 h m1 m2 ok2 T K P D E E2, Try.f4.ntmps, sameP ok2 ok m2 m1 sw2 sw' most2 most' ++ [(decide (d ≥ 50000000), true), (!ok2, false), (decide (d < 0), false)] ++ [apQ h 8 T, apP h 9 9 K, apQ h 1 P]) := by kernel_rfl
theorem ff_b : viewU live4 (evL Try.prog M (ovX Try.prog M) [169, 173, 177] [] [] [128, 136, 143, 150, 153, 156, 160, 163] 300 [itemN x4 10, itemN x4 11, itemN x4 12, itemN x4 13, itemN x4 14, itemN x4 15, itemN x4 16, itemN x4 17] ⟨mkT Try.f4.ntmps live8 (v6l now h k ok [.int .i64 d, ptN, .bool ok2]) z, hr4 u n c p most sw s T K P kb D E (slB 7 m1) most' sw' [bk1 E2, limO most2 sw2 (slB 9 m2)]⟩ [false, false, false, false, false, false])
   = some (.normal, endV now h k, endH u n c p now kb most' sw' most2 sw2 h m1 m2 ok2 T K P D E E2, Try.f4.ntmps, sameP ok2 ok m2 m1 sw2 sw' most2 most' ++ [(decide (d ≥ 50000000), false), (decide (d < 0), false)] ++ [apQ h 8 T, apP h 9 9 K, apQ h 1 P]) := by kernel_rfl
theorem ff_c : viewU live4 (evL Try.prog M (ovX Try.prog M) [169, 173, 177] [] [] [128, 136, 143, 150, 153, 156, 160, 163] 300 [itemN x4 10, itemN x4 11, itemN x4 12, itemN x4 13, itemN x4 14, itemN x4 15, itemN x4 16, itemN x4 17] ⟨mkT Try.f4.ntmps live8 (v6l now h k ok [.int .i64 d, ptN, .bool ok2]) z, hr4 u n c p most sw s T K P kb D E (slB 7 m1) most' sw' [bk1 E2, limO most2 sw2 (slB 9 m2)]⟩ [false, false, false, false, false, true, false])
   = some (.normal, endV now h k, endH u n c p now kb most' sw' most2 sw2 h m1 m2 ok2 T K P D E E2, Try.f4.ntmps, sameP ok2 ok m2 m1 sw2 sw' most2 most' ++ [(decide (d ≥ 50000000), false), (decide (d < 0), true), (ok2, false)] ++ [apQ h 8 T, apP h 9 9 K, apQ h 1 P]) := by kernel_rfl
theorem f_dec : viewU live4 (evL Try.prog M (ovS shT Try.prog M) [] [] [] [] 300 [itemN l4 3] ⟨mkT Try.f4.ntmps live4 (v4 now h k []) z, hp4 u n c p most sw s T K P [bk1 D]⟩ [])
   = some (.normal, v4 now h (IntKind.wrap .i64 (k - 1)) [], hp4 u n c p most sw s T K P [bk1 D], Try.f4.ntmps, []) := by kernel_rfl
end

section
variable {M : Mem} {O : Org} {u : Option (Nat × Nat)} {n c : Nat} {p : Int × Int} {most sw now k kb d : Int} {h : Nat} {ok : Bool} {T K P : List Value} {L W : List Bk} {zz : Bool}
/-- The answers are compared, and kept. -/
theorem stepF (hO : O.h = []) (hh : h ≤ 100) (hT : T.length = h) (hK : K.length = h * 9) (hP : P.length = h) (g1 : d ≥ 50000000 → ok = true) (g2 : d < 0 → ok = false) {a : Go.Act} {w : World} {Q : Exit → Go.Act → World → Prop}
    (hat : AtV M O Try.f4.ntmps live8 (v6l now h k ok [.int .i64 d, ptN, .bool ok]) (hr4 u n c p most sw (slZ zz 6 L.length) T K P kb (rowsL L) (rowsL W) (slB 7 W.length) most (swB sw now) (ansO 9 most sw now W)) [] (fun _ _ => False) a w)
    (k1 : ∀ a1 w1, AtV M O Try.f4.ntmps live4 (v4 now (h + 1) k []) (hp4 u n c p most (swB sw now) (slZ false 5 W.length) (T ++ [.int .i64 now]) (K ++ kc (kyD kb)) (P ++ [.bool ok]) (tlB false (rowsL W))) [] (fun _ _ => False) a1 w1 → Q .normal a1 w1) :
    wpL Try.prog Q [itemN x4 10, itemN x4 11, itemN x4 12, itemN x4 13, itemN x4 14, itemN x4 15, itemN x4 16, itemN x4 17] a w := by
  have hkeep : ∀ (l : List Nat) k, k < O.h.length → l[k]? = some k := fun l k hk => by rw [hO] at hk; exact absurd hk (by simp)
  have eT : T.take (h * 1) = T := List.take_of_length_le (by omega)
  have eK : K.take (h * 9) = K := List.take_of_length_le (by omega)
  have eP : P.take (h * 1) = P := List.take_of_length_le (by omega)
  have fin : ∀ a1 w1, AtV M O Try.f4.ntmps live4 (endV now h k) (endH u n c p now kb most (swB sw now) most (swB sw now) h W.length W.length ok T K P (rowsL L) (rowsL W) (rowsL W)) [] (fun _ _ => False) a1 w1 → Q .normal a1 w1 := fun a1 w1 h1 => by
    unfold endH endV at h1
    rw [eT, eK, eP, Nat.mul_one] at h1
    exact k1 a1 w1 (h1.compact (keep := [0, 1, 2, 3, 4, 9]) (i0 := 1) (lo := (hp4 u n c p most (swB sw now) (slZ false 5 W.length) (T ++ [.int .i64 now]) (K ++ kc (kyD kb)) (P ++ [.bool ok]) (tlB false (rowsL W))).filterMap id) (by cases u <;> kernel_rfl) (hkeep _))
  have hpin : Held [apQ h 8 T, apP h 9 9 K, apQ h 1 P] := held_cons (by simp [apQ, hT, room]; omega) (held_cons (by simp [apP, hK, room]; omega) (held_one (by simp [apQ, hP, room]; omega)))
  have hsame : Held (sameP ok ok W.length W.length (swB sw now) (swB sw now) most most) := held_cons (by simp) (held_cons (by simp) (held_cons (by simp) (held_one (by simp))))
  refine wpL_end ?_
  show wpL Try.prog Q ([itemN x4 10, itemN x4 11, itemN x4 12, itemN x4 13, itemN x4 14, itemN x4 15, itemN x4 16, itemN x4 17] ++ []) a w
  by_cases h1 : d ≥ 50000000
  · obtain rfl := g1 h1
    exact hat.items (ovX_ok _ _) nilC mix (fun c _ => hooksOk_nil c) (fun z => ff_a M u n c p most sw now k kb d most (swB sw now) most (swB sw now) h W.length W.length true true T K P (rowsL L) (rowsL W) (rowsL W) z _) (held_two (held_two hsame (held_cons (decide_eq_true h1) (held_cons rfl (held_one (decide_eq_false (by omega)))))) hpin) rfl (fun _ a1 w1 h1 => fin a1 w1 h1) fun hne => absurd rfl hne
  · by_cases h2 : d < 0
    · obtain rfl := g2 h2
      exact hat.items (ovX_ok _ _) nilC mix (fun c _ => hooksOk_nil c) (fun z => ff_c M u n c p most sw now k kb d most (swB sw now) most (swB sw now) h W.length W.length false false T K P (rowsL L) (rowsL W) (rowsL W) z _) (held_two (held_two hsame (held_cons (decide_eq_false h1) (held_cons (decide_eq_true h2) (held_one rfl)))) hpin) rfl (fun _ a1 w1 h1 => fin a1 w1 h1) fun hne => absurd rfl hne
    · exact hat.items (ovX_ok _ _) nilC mix (fun c _ => hooksOk_nil c) (fun z => ff_b M u n c p most sw now k kb d most (swB sw now) most (swB sw now) h W.length W.length ok ok T K P (rowsL L) (rowsL W) (rowsL W) z _) (held_two (held_two hsame (held_cons (decide_eq_false h1) (held_one (decide_eq_false h2)))) hpin) rfl (fun _ a1 w1 h1 => fin a1 w1 h1) fun hne => absurd rfl hne
end
end Go.Proofs.Ytfkdcpinajnbfaa

open Go.Ab
set_option linter.unusedVariables false
set_option linter.unusedSimpArgs false
namespace Go.Proofs.Ytfkdcpinajnbfaa

/-- One packet: when, whose, let pass or not. -/
structure Ev where
  t : Int
  k : Key
  ok : Bool

/-- What a key has left. -/
def potL (now : Int) (key : Key) : List Bk → Int
  | [] => 250000000
  | b :: L => if b.k = key then min 250000000 (b.tok + (now - b.last)) else potL now key L

theorem potL_cons (now : Int) (key : Key) (b : Bk) (L : List Bk) : potL now key (b :: L) = if b.k = key then min 250000000 (b.tok + (now - b.last)) else potL now key L := rfl

theorem grownR_min {now : Int} {b : Bk} (h : RowOk now b) (hn : now ≤ 9223372036854775807) : grownR now b = min 250000000 (b.tok + (now - b.last)) := by
  obtain ⟨h1, h2, h3, h4⟩ := h
  have e1 : IntKind.wrap .i64 (now - b.last) = now - b.last := Ab.wrap_i64 (by omega) (by omega)
  have e2 : IntKind.wrap .i64 (250000000 - b.tok) = 250000000 - b.tok := Ab.wrap_i64 (by omega) (by omega)
  unfold grownR
  rw [e1, e2]
  split
  · rw [Ab.wrap_i64 (by omega) (by omega)]; omega
  · rw [Ab.wrap_i64 (by omega) (by omega)]; omega

theorem idleB_iff {now : Int} {b : Bk} (h : RowOk now b) (hn : now ≤ 9223372036854775807) : idleB now b = decide (now - b.last > 1000000000) := by
  obtain ⟨h1, h2, h3, h4⟩ := h
  unfold idleB
  rw [Ab.wrap_i64 (by omega) (by omega)]

theorem pot_le (now : Int) (key : Key) : ∀ L, potL now key L ≤ 250000000 := by
  intro L
  induction L with
  | nil => simp [potL]
  | cons b L ih => unfold potL; split <;> omega
theorem pot_nonneg {now : Int} (key : Key) : ∀ {L : List Bk}, (∀ b ∈ L, RowOk now b) → 0 ≤ potL now key L := by
  intro L
  induction L with
  | nil => intro _; simp [potL]
  | cons b L ih =>
    intro h
    obtain ⟨h1, h2, h3, h4⟩ := h b (by simp)
    have := ih fun x hx => h x (by simp [hx])
    unfold potL
    split <;> omega
theorem pot_later {now now' : Int} (key : Key) (h : now ≤ now') : ∀ L, potL now' key L ≤ potL now key L + (now' - now) := by
  intro L
  induction L with
  | nil => simp only [potL]; omega
  | cons b L ih => unfold potL; split <;> omega
theorem pot_none {now : Int} {key : Key} : ∀ {L : List Bk}, (∀ b ∈ L, b.k ≠ key) → potL now key L = 250000000 := by
  intro L
  induction L with
  | nil => intro _; rfl
  | cons b L ih =>
    intro h
    unfold potL
    rw [if_neg (h b (by simp)), ih fun x hx => h x (by simp [hx])]

/-- Idle buckets are full ones. -/
theorem pot_swp {now : Int} (hn : now ≤ 9223372036854775807) (sp : Bool) (key : Key) : ∀ {L : List Bk}, (∀ b ∈ L, RowOk now b) → (L.Pairwise fun x y => x.k ≠ y.k) → potL now key (swp now sp L) = potL now key L := by
  intro L
  induction L with
  | nil => intro _ _; rfl
  | cons b L ih =>
    intro h hp
    obtain ⟨hp1, hp2⟩ := List.pairwise_cons.1 hp
    have ih := ih (fun x hx => h x (by simp [hx])) hp2
    have hb := h b (by simp)
    by_cases hs : (sp && idleB now b) = true
    · have e2 : swp now sp (b :: L) = swp now sp L := by unfold swp; rw [List.filter_cons, hs]; rfl
      rw [e2, potL_cons]
      by_cases hk : b.k = key
      · rw [if_pos hk, pot_none (L := swp now sp L) fun x hx he => hp1 x (List.mem_filter.1 hx).1 (hk.trans he.symm)]
        have hi : idleB now b = true := by
          simp only [Bool.and_eq_true] at hs; exact hs.2
        rw [idleB_iff hb hn, decide_eq_true_eq] at hi
        obtain ⟨h1, _, _, _⟩ := hb
        omega
      · rw [if_neg hk]
        exact ih
    · have e2 : swp now sp (b :: L) = b :: swp now sp L := by
        unfold swp; rw [List.filter_cons, Bool.eq_false_iff.2 hs]; rfl
      rw [e2, potL_cons, potL_cons]
      split
      · rfl
      · exact ih

/-- What is asked is taken. -/
theorem pot_upd {now : Int} (hn : now ≤ 9223372036854775807) (key key' : Key) : ∀ {L : List Bk}, (∀ b ∈ L, RowOk now b) → (L.Pairwise fun x y => x.k ≠ y.k) →
    potL now key' (updL now key L) = potL now key' L - if key' = key ∧ passK now key L = true then 50000000 else 0 := by
  intro L
  induction L with
  | nil => intro _ _; simp [updL, potL, passK]
  | cons b L ih =>
    intro h hp
    obtain ⟨hp1, hp2⟩ := List.pairwise_cons.1 hp
    have ih := ih (fun x hx => h x (by simp [hx])) hp2
    have hb := h b (by simp)
    have hg := grownR_min hb hn
    rw [updL_cons, passK_cons]
    by_cases hk : b.k = key
    · have hno : hasK key L = false := no_key (L := L) (fun x hx he => hp1 x hx (hk.trans he.symm)) fun x hx => hx
      have hak : (askB now b).k = b.k := by unfold askB; split <;> rfl
      rw [if_pos hk, decide_eq_true hk, no_pass hno, no_upd hno, Bool.true_and, Bool.or_false]
      rw [potL_cons, potL_cons, hak]
      by_cases hk' : b.k = key'
      · rw [if_pos hk', if_pos hk']
        have hkk : key' = key := hk'.symm.trans hk
        unfold askB
        by_cases hge : grownR now b ≥ 50000000
        · rw [if_pos hge, if_pos ⟨hkk, decide_eq_true hge⟩]
          show min 250000000 (IntKind.i64.wrap (grownR now b - 50000000) + (now - now)) = _
          rw [Ab.wrap_i64 (by omega) (by omega)]
          omega
        · rw [if_neg hge, if_neg (fun h => hge (of_decide_eq_true h.2))]
          show min 250000000 (grownR now b + (now - now)) = _
          omega
      · rw [if_neg hk', if_neg hk', if_neg (fun h => hk' (hk.trans h.1.symm))]
        omega
    · rw [if_neg hk, decide_eq_false hk, Bool.false_and, Bool.false_or, potL_cons, potL_cons]
      by_cases hk' : b.k = key'
      · rw [if_pos hk', if_pos hk', if_neg (fun h => hk (hk'.trans h.1))]
        omega
      · rw [if_neg hk', if_neg hk']
        exact ih
theorem pot_snoc {now : Int} {key' : Key} {x : Bk} : ∀ {L : List Bk}, (x.k = key' → ∀ b ∈ L, b.k ≠ key') → potL now key' (L ++ [x]) = if x.k = key' then min 250000000 (x.tok + (now - x.last)) else potL now key' L := by
  intro L
  induction L with
  | nil => intro _; rfl
  | cons b L ih =>
    intro h
    rw [List.cons_append, potL_cons, potL_cons]
    by_cases hx : x.k = key'
    · rw [if_pos hx, if_neg (h hx b (by simp)), ih fun h' c hc => h h' c (by simp [hc]), if_pos hx]
    · rw [if_neg hx]
      split
      · rfl
      · rw [ih fun h' => absurd h' hx, if_neg hx]

theorem hasK_false {key : Key} {L : List Bk} (h : ¬ hasK key L = true) : ∀ b ∈ L, b.k ≠ key := fun b hb he => h (List.any_eq_true.2 ⟨b, hb, decide_eq_true he⟩)
theorem sweepB_mem {sw now : Int} {L : List Bk} {b : Bk} (h : b ∈ sweepB sw now L) : b ∈ L := by
  unfold sweepB at h
  split at h
  · exact (List.mem_filter.1 h).1
  · exact h
theorem sweepB_pair {sw now : Int} {L : List Bk} (h : L.Pairwise fun x y => x.k ≠ y.k) : (sweepB sw now L).Pairwise fun x y => x.k ≠ y.k := by
  unfold sweepB
  split
  · exact h.filter _
  · exact h
theorem sweepB_len (sw now : Int) (L : List Bk) : (sweepB sw now L).length ≤ L.length := by
  unfold sweepB
  split
  · exact List.length_filter_le _ _
  · exact Nat.le_refl _

/-- The whole of Allow. -/
theorem pot_allow {most sw now : Int} {key key' : Key} {L : List Bk} (hv : ValidL most sw now L) (hn : now ≤ 9223372036854775807) :
    potL now key' (allowL most sw now key L).2 = potL now key' L - if key' = key ∧ (allowL most sw now key L).1 = true then 50000000 else 0 := by
  have hrows : ∀ b ∈ sweepB sw now L, RowOk now b := fun b hb => hv.2.rows b (sweepB_mem hb)
  have hap := sweepB_pair (sw := sw) (now := now) hv.2.apart
  have hsw : potL now key' (sweepB sw now L) = potL now key' L := by
    rw [← swp_eq]; exact pot_swp hn _ key' hv.2.rows hv.2.apart
  rw [← hsw]
  unfold allowL askL
  by_cases hk : hasK key (sweepB sw now L) = true
  · rw [if_pos hk]
    exact pot_upd hn key key' hrows hap
  · rw [if_neg hk]
    have hno := hasK_false hk
    split
    · show potL now key' (sweepB sw now L ++ [⟨key, 200000000, now⟩]) = _
      rw [pot_snoc fun h b hb => by rw [← h]; exact hno b hb]
      by_cases he : key = key'
      · subst he
        rw [if_pos rfl, if_pos ⟨rfl, rfl⟩, pot_none hno]
        show min 250000000 (200000000 + (now - now)) = (250000000 : Int) - 50000000
        omega
      · rw [if_neg he, if_neg (fun h => he h.1.symm)]
        omega
    · rw [if_neg (fun h => by cases h.2)]
      show potL now key' (sweepB sw now L) = _
      omega

/-- A limiter stays valid. -/
theorem valid_allow {most sw now : Int} {key : Key} {L : List Bk} (hv : ValidL most sw now L) (hn : now ≤ 9223372036854775807) : ValidL most (swB sw now) now (allowL most sw now key L).2 ∧ (allowL most sw now key L).2 ≠ [] := by
  have hrows : ∀ b ∈ sweepB sw now L, RowOk now b := fun b hb => hv.2.rows b (sweepB_mem hb)
  have hap := sweepB_pair (sw := sw) (now := now) hv.2.apart
  have hlen := sweepB_len sw now L
  obtain ⟨h0, h1, h2, h3, h4, h5⟩ := hv.1
  have hsw : 0 ≤ swB sw now ∧ swB sw now ≤ now := by unfold swB; split <;> omega
  unfold allowL askL
  by_cases hk : hasK key (sweepB sw now L) = true
  · rw [if_pos hk]
    have hkk : ∀ b : Bk, (if b.k = key then askB now b else b).k = b.k := fun b => by
      split
      · unfold askB; split <;> rfl
      · rfl
    refine ⟨⟨⟨h0, h1, h2, ?_, hsw.1, hsw.2⟩, ⟨fun b hb => ?_, ?_⟩⟩, ?_⟩
    · simp only [updL, List.length_map]; omega
    · obtain ⟨x, hx, rfl⟩ := List.mem_map.1 hb
      have hro := hrows x hx
      split
      · have hg := grownR_min hro hn
        obtain ⟨r1, r2, r3, r4⟩ := hro
        unfold askB
        split
        · refine ⟨?_, ?_, h0, Int.le_refl _⟩
          · show 0 ≤ IntKind.i64.wrap (grownR now x - 50000000)
            rw [Ab.wrap_i64 (by omega) (by omega)]; omega
          · show IntKind.i64.wrap (grownR now x - 50000000) ≤ 250000000
            rw [Ab.wrap_i64 (by omega) (by omega)]; omega
        · exact ⟨by show 0 ≤ grownR now x; omega, by show grownR now x ≤ 250000000; omega, h0, Int.le_refl _⟩
      · exact hro
    · show (updL now key (sweepB sw now L)).Pairwise _
      unfold updL
      rw [List.pairwise_map]
      exact hap.imp fun {x y} h => by rw [hkk, hkk]; exact h
    · intro hnil
      have : sweepB sw now L = [] := List.map_eq_nil_iff.1 hnil
      rw [this] at hk
      cases hk
  · rw [if_neg hk]
    have hno := hasK_false hk
    by_cases hl : ((sweepB sw now L).length : Int) < most
    · rw [if_pos hl]
      refine ⟨⟨⟨h0, h1, h2, ?_, hsw.1, hsw.2⟩, ⟨fun b hb => ?_, ?_⟩⟩, by simp⟩
      · simp only [List.length_append, List.length_cons, List.length_nil]; omega
      · rcases List.mem_append.1 hb with hb | hb
        · exact hrows b hb
        · simp at hb; subst hb; exact ⟨by show (0 : Int) ≤ 200000000; decide, by show (200000000 : Int) ≤ 250000000; decide, h0, Int.le_refl _⟩
      · exact List.pairwise_append.2 ⟨hap, by simp, fun x hx y hy => by simp at hy; subst hy; exact hno x hx⟩
    · rw [if_neg hl]
      refine ⟨⟨⟨h0, h1, h2, by show ((sweepB sw now L).length : Int) ≤ most; omega, hsw.1, hsw.2⟩, ⟨hrows, hap⟩⟩, ?_⟩
      intro hnil
      have : (sweepB sw now L).length = 0 := by
        have : sweepB sw now L = [] := hnil
        rw [this]; rfl
      omega
theorem valid_later {most sw now now' : Int} {L : List Bk} (hv : ValidL most sw now L) (h : now ≤ now') : ValidL most sw now' L := by
  obtain ⟨⟨h0, h1, h2, h3, h4, h5⟩, ⟨hr, ha⟩⟩ := hv
  exact ⟨⟨by omega, h1, h2, h3, h4, by omega⟩, ⟨fun b hb => by obtain ⟨r1, r2, r3, r4⟩ := hr b hb; exact ⟨r1, r2, r3, by omega⟩, ha⟩⟩
theorem keys_allow {most sw now : Int} {key : Key} {L : List Bk} (hk : KeyOk key) (hks : ∀ b ∈ L, KeyOk b.k) : ∀ b ∈ (allowL most sw now key L).2, KeyOk b.k := by
  intro b hb
  unfold allowL askL at hb
  split at hb
  · obtain ⟨x, hx, rfl⟩ := List.mem_map.1 hb
    have := hks x (sweepB_mem hx)
    split
    · unfold askB; split <;> exact this
    · exact this
  · split at hb
    · rcases List.mem_append.1 hb with hb | hb
      · exact hks b (sweepB_mem hb)
      · simp at hb; subst hb; exact hk
    · exact hks b (sweepB_mem hb)
end Go.Proofs.Ytfkdcpinajnbfaa

open Go.Ab
set_option linter.unusedVariables false
set_option linter.unusedSimpArgs false
namespace Go.Proofs.Ytfkdcpinajnbfaa

/-! ### How long a key has been idle -/
theorem in_fold (key : Key) : ∀ (W : List Bk) (d : Int), W.foldl (inS key) d = if hasK key W then 0 else d := by
  intro W
  induction W with
  | nil => intro d; rfl
  | cons b W ih =>
    intro d
    rw [List.foldl_cons, ih, hasK_cons]
    unfold inS
    by_cases hk : b.k = key
    · rw [if_pos hk, decide_eq_true hk, Bool.true_or, if_pos rfl]; split <;> rfl
    · rw [if_neg hk, decide_eq_false hk, Bool.false_or]
theorem id_fold {now : Int} (key : Key) : ∀ (L : List Bk) (d : Int), (hasK key L = false ∧ L.foldl (idS now key) d = d) ∨ ∃ b ∈ L, b.k = key ∧ L.foldl (idS now key) d = IntKind.i64.wrap (now - b.last) := by
  intro L
  induction L with
  | nil => intro d; exact .inl ⟨rfl, rfl⟩
  | cons b L ih =>
    intro d
    rw [List.foldl_cons]
    rcases ih (idS now key d b) with ⟨h1, h2⟩ | ⟨x, hx, hxk, h2⟩
    · by_cases hk : b.k = key
      · exact .inr ⟨b, by simp, hk, by rw [h2]; unfold idS; rw [if_pos hk]⟩
      · refine .inl ⟨by rw [hasK_cons, h1, decide_eq_false hk]; rfl, ?_⟩
        rw [h2]; unfold idS; rw [if_neg hk]
    · exact .inr ⟨x, by simp [hx], hxk, h2⟩

theorem has_allow {most sw now : Int} {key : Key} {L : List Bk} (h : (allowL most sw now key L).1 = true) : hasK key (allowL most sw now key L).2 = true := by
  unfold allowL askL at h ⊢
  by_cases hk : hasK key (sweepB sw now L) = true
  · rw [if_pos hk] at h ⊢
    obtain ⟨b, hb, he⟩ := List.any_eq_true.1 hk
    have he := of_decide_eq_true he
    refine List.any_eq_true.2 ⟨askB now b, List.mem_map.2 ⟨b, hb, if_pos he⟩, decide_eq_true ?_⟩
    rw [← he]; unfold askB; split <;> rfl
  · rw [if_neg hk] at h ⊢
    split at h
    · rename_i hl
      rw [if_pos hl]
      exact List.any_eq_true.2 ⟨⟨key, 200000000, now⟩, by simp, decide_eq_true rfl⟩
    · cases h

/-- A key that has been idle long enough is let pass. -/
theorem idle_pass {most sw now : Int} {key : Key} {L : List Bk} (hv : ValidL most sw now L) (hn : now ≤ 9223372036854775807) {b : Bk} (hb : b ∈ L) (hk : b.k = key) (hi : now - b.last ≥ 50000000) : (allowL most sw now key L).1 = true := by
  have hro := hv.2.rows b hb
  have hg := grownR_min hro hn
  obtain ⟨r1, r2, r3, r4⟩ := hro
  unfold allowL askL
  by_cases hh : hasK key (sweepB sw now L) = true
  · rw [if_pos hh]
    obtain ⟨x, hx, he⟩ := List.any_eq_true.1 hh
    have he := of_decide_eq_true he
    have hxb : x = b := by
      have hap := hv.2.apart
      refine Classical.byContradiction fun hne => ?_
      obtain ⟨i, hil, rfl⟩ := List.mem_iff_getElem.1 (sweepB_mem hx)
      obtain ⟨j, hjl, rfl⟩ := List.mem_iff_getElem.1 hb
      rw [List.pairwise_iff_getElem] at hap
      rcases Nat.lt_trichotomy i j with h | h | h
      · exact hap i j hil hjl h (he.trans hk.symm)
      · subst h; exact hne rfl
      · exact hap j i hjl hil h (hk.trans he.symm)
    subst hxb
    exact List.any_eq_true.2 ⟨x, hx, by rw [decide_eq_true he, Bool.true_and, decide_eq_true_eq]; omega⟩
  · rw [if_neg hh]
    have hlt : (sweepB sw now L).length < L.length := by
      refine Nat.lt_of_le_of_ne (sweepB_len sw now L) fun he => hh ?_
      have hall : sweepB sw now L = L := by
        unfold sweepB at he ⊢
        split
        · rename_i hs
          rw [if_pos hs] at he
          exact (List.filter_sublist).eq_of_length he
        · rfl
      rw [hall]
      exact List.any_eq_true.2 ⟨b, hb, decide_eq_true hk⟩
    have := hv.1.h3
    rw [if_pos (by omega)]

theorem idle_long {most sw now : Int} {key : Key} {L : List Bk} (hv : ValidL most sw now L) (hn : now ≤ 9223372036854775807) : L.foldl (idS now key) ((allowL most sw now key L).2.foldl (inS key) (-1)) ≥ 50000000 → (allowL most sw now key L).1 = true := by
  intro h
  rcases id_fold (now := now) key L ((allowL most sw now key L).2.foldl (inS key) (-1)) with ⟨_, h2⟩ | ⟨b, hb, hk, h2⟩
  · rw [h2, in_fold] at h
    exfalso
    split at h <;> omega
  · have hro := hv.2.rows b hb
    rw [h2] at h
    obtain ⟨r1, r2, r3, r4⟩ := hro
    rw [Ab.wrap_i64 (by omega) (by omega)] at h
    exact idle_pass hv hn hb hk h
theorem idle_new {most sw now : Int} {key : Key} {L : List Bk} (hv : ValidL most sw now L) (hn : now ≤ 9223372036854775807) : L.foldl (idS now key) ((allowL most sw now key L).2.foldl (inS key) (-1)) < 0 → (allowL most sw now key L).1 = false := by
  intro h
  rcases id_fold (now := now) key L ((allowL most sw now key L).2.foldl (inS key) (-1)) with ⟨_, h2⟩ | ⟨b, hb, hk, h2⟩
  · rw [h2, in_fold] at h
    rw [Bool.eq_false_iff]
    intro ht
    rw [if_pos (has_allow ht)] at h
    omega
  · have hro := hv.2.rows b hb
    rw [h2] at h
    obtain ⟨r1, r2, r3, r4⟩ := hro
    rw [Ab.wrap_i64 (by omega) (by omega)] at h
    omega

/-! ### The rate -/
def cntE (key : Key) (H : List Ev) : Nat := (H.filter fun e => e.ok && decide (e.k = key)).length
theorem cntE_snoc (key : Key) (H : List Ev) (e : Ev) : (cntE key (H ++ [e]) : Int) = cntE key H + if key = e.k ∧ e.ok = true then 1 else 0 := by
  unfold cntE
  rw [List.filter_append, List.length_append]
  by_cases h1 : e.ok = true
  · by_cases h2 : e.k = key
    · rw [if_pos ⟨h2.symm, h1⟩]; simp [h1, h2]
    · rw [if_neg (fun h => h2 h.1.symm)]; simp [h1, h2]
  · rw [if_neg (fun h => h1 h.2)]; simp [h1]

/-- What holds of a row of packets, and of the limiter behind it. -/
structure RateI (H : List Ev) (now : Int) (L : List Bk) : Prop where
  nn : ∀ e ∈ H, 0 ≤ e.t
  le : ∀ e ∈ H, e.t ≤ now
  sorted : H.Pairwise fun x y => x.t ≤ y.t
  rate : ∀ i j key x y, i ≤ j → H[i]? = some x → H[j]? = some y → 50000000 * (cntE key ((H.drop i).take (j + 1 - i)) : Int) ≤ 250000000 + (y.t - x.t)
  pot : ∀ i key x, H[i]? = some x → 50000000 * (cntE key (H.drop i) : Int) + potL now key L ≤ 250000000 + (now - x.t)

abbrev evA (most sw now' : Int) (key : Key) (L : List Bk) : Ev := ⟨now', key, (allowL most sw now' key L).1⟩
theorem RateI.step {most sw now now' : Int} {key : Key} {L : List Bk} {H : List Ev} (h : RateI H now L) (hle : now ≤ now') (hv : ValidL most sw now' L) (hn : now' ≤ 9223372036854775807) :
    RateI (H ++ [evA most sw now' key L]) now' (allowL most sw now' key L).2 := by
  have hv2 := valid_allow (key := key) hv hn
  have hpot : ∀ key', potL now' key' (allowL most sw now' key L).2 + 50000000 * (if key' = key ∧ (allowL most sw now' key L).1 = true then 1 else 0) = potL now' key' L := fun key' => by
    have := pot_allow (key := key) (key' := key') hv hn
    split at this
    · rename_i hc; rw [if_pos hc]; omega
    · rename_i hc; rw [if_neg hc]; omega
  have P : ∀ i key' x, (H ++ [evA most sw now' key L])[i]? = some x → 50000000 * (cntE key' ((H ++ [evA most sw now' key L]).drop i) : Int) + potL now' key' (allowL most sw now' key L).2 ≤ 250000000 + (now' - x.t) := by
    intro i key' x hx
    have hp := hpot key'
    by_cases hi : i < H.length
    · rw [List.getElem?_append_left hi] at hx
      rw [List.drop_append_of_le_length (by omega), cntE_snoc]
      have h1 := h.pot i key' x hx
      have h2 := pot_later key' hle L
      show 50000000 * ((cntE key' (H.drop i) : Int) + if key' = key ∧ (allowL most sw now' key L).1 = true then 1 else 0) + _ ≤ _
      omega
    · have hi' : i = H.length := by
        have := (List.getElem?_eq_some_iff.1 hx).1
        simp at this
        omega
      subst hi'
      rw [List.getElem?_append_right (Nat.le_refl _), Nat.sub_self] at hx
      simp at hx
      subst hx
      rw [List.drop_left]
      have h1 := cntE_snoc key' [] (evA most sw now' key L)
      rw [List.nil_append] at h1
      have h2 := pot_le now' key' L
      have e0 : (cntE key' [] : Int) = 0 := rfl
      rw [h1, e0]
      show 50000000 * ((0 : Int) + if key' = key ∧ (allowL most sw now' key L).1 = true then 1 else 0) + _ ≤ 250000000 + (now' - now')
      omega
  refine ⟨fun e he => ?_, fun e he => ?_, ?_, fun i j key' x y hij hx hy => ?_, P⟩
  · rcases List.mem_append.1 he with he | he
    · exact h.nn e he
    · simp at he; subst he; exact hv.1.h0
  · rcases List.mem_append.1 he with he | he
    · have := h.le e he; omega
    · simp at he; subst he; exact Int.le_refl _
  · exact List.pairwise_append.2 ⟨h.sorted, by simp, fun x hx y hy => by simp at hy; subst hy; have := h.le x hx; show x.t ≤ now'; omega⟩
  · by_cases hj : j < H.length
    · rw [List.getElem?_append_left (by omega)] at hx
      rw [List.getElem?_append_left hj] at hy
      have e : ((H ++ [evA most sw now' key L]).drop i).take (j + 1 - i) = (H.drop i).take (j + 1 - i) := by
        rw [List.drop_append_of_le_length (by omega), List.take_append_of_le_length (by rw [List.length_drop]; omega)]
      rw [e]
      exact h.rate i j key' x y hij hx hy
    · have hj' : j = H.length := by
        have := (List.getElem?_eq_some_iff.1 hy).1
        simp at this
        omega
      subst hj'
      have h1 := P i key' x hx
      rw [List.getElem?_append_right (Nat.le_refl _), Nat.sub_self] at hy
      simp at hy
      subst hy
      have e : ((H ++ [evA most sw now' key L]).drop i).take (H.length + 1 - i) = (H ++ [evA most sw now' key L]).drop i := List.take_of_length_le (by rw [List.length_drop, List.length_append]; simp)
      rw [e]
      have h2 := pot_nonneg (now := now') key' (L := (allowL most sw now' key L).2) hv2.1.2.rows
      show _ ≤ 250000000 + (now' - x.t)
      omega

theorem RateI.zero (now : Int) : RateI [] now [] := ⟨fun e he => (by cases he), fun e he => (by cases he), List.Pairwise.nil, fun i j key x y _ hx => (by simp at hx), fun i key x hx => (by simp at hx)⟩

/-- The law's own test. -/
theorem RateI.test {H : List Ev} {now : Int} {L : List Bk} (h : RateI H now L) {i j : Nat} {x y : Ev} (hij : i ≤ j) (hx : H[i]? = some x) (hy : H[j]? = some y) (key : Key) : (cntE key ((H.drop i).take (j + 1 - i)) : Int) ≤ 5 + (y.t - x.t).tdiv 50000000 := by
  have h1 := h.rate i j key x y hij hx hy
  have h2 : x.t ≤ y.t := by
    by_cases he : i = j
    · subst he; rw [hx] at hy; cases hy; exact Int.le_refl _
    · obtain ⟨hi, rfl⟩ := List.getElem?_eq_some_iff.1 hx
      obtain ⟨hj, rfl⟩ := List.getElem?_eq_some_iff.1 hy
      have := h.sorted
      rw [List.pairwise_iff_getElem] at this
      exact this i j hi hj (by omega)
  rw [Int.tdiv_eq_ediv_of_nonneg (by omega)]
  omega
end Go.Proofs.Ytfkdcpinajnbfaa

open Go.Ab
set_option linter.unusedVariables false
set_option linter.unusedSimpArgs false
namespace Go.Proofs.Ytfkdcpinajnbfaa
set_option maxRecDepth 100000
def tT (H : List Ev) : List Value := H.map fun e => .int .i64 e.t
def tK (H : List Ev) : List Value := H.flatMap fun e => kc e.k
def tP (H : List Ev) : List Value := H.map fun e => .bool e.ok
theorem tT_len (H : List Ev) : (tT H).length = H.length := by simp [tT]
theorem tP_len (H : List Ev) : (tP H).length = H.length := by simp [tP]
theorem tK_len : ∀ H : List Ev, (tK H).length = H.length * 9 := by
  intro H
  induction H with
  | nil => rfl
  | cons e H ih =>
    have : tK (e :: H) = kc e.k ++ tK H := rfl
    rw [this, List.length_append, ih]
    simp [kc]; omega
theorem allow_len (most sw now : Int) (key : Key) (L : List Bk) : (allowL most sw now key L).2.length ≤ L.length + 1 := by
  have h1 := sweepB_len sw now L
  unfold allowL askL
  split
  · simp only [updL, List.length_map]; omega
  · split
    · simp only [List.length_append, List.length_cons, List.length_nil]; omega
    · simp only []; omega
theorem tT_snoc (H : List Ev) (e : Ev) : tT (H ++ [e]) = tT H ++ [.int .i64 e.t] := by simp [tT]
theorem tP_snoc (H : List Ev) (e : Ev) : tP (H ++ [e]) = tP H ++ [.bool e.ok] := by simp [tP]
theorem tK_snoc (H : List Ev) (e : Ev) : tK (H ++ [e]) = tK H ++ kc e.k := by simp [tK]

section
variable (M : Mem) (u : Option (Nat × Nat)) (n c : Nat) (p : Int × Int) (most sw now k : Int) (h : Nat) (T K P : List Value) (z : Nat → Value) (s : Value) (x : AHeap)
theorem fg_t : viewU live4 (evL Try.prog M (ovS shT Try.prog M) [] [] [] [43] 300 [itemN l4 0, itemN l4 1] ⟨mkT Try.f4.ntmps live4 (v4 now h k []) z, hp4 u n c p most sw s T K P x⟩ [true])
   = some (.normal, v4 now h k [], hp4 u n c p most sw s T K P x, Try.f4.ntmps, [(decide (k > 0), true)]) := by kernel_rfl
theorem fg_x : viewU [6, 7, 8] (evL Try.prog M (ovS shT Try.prog M) [] [] [] [43] 300 [itemN l4 0, itemN l4 1] ⟨mkT Try.f4.ntmps live4 (v4 now h k []) z, hp4 u n c p most sw s T K P x⟩ [false])
   = some (.exit 0, [.slice (some ⟨2, 0, some h⟩) h h, .slice (some ⟨3, 0, some (h * 9)⟩) h h, .slice (some ⟨4, 0, some h⟩) h h], hp4 u n c p most sw s T K P x, Try.f4.ntmps, [(decide (k > 0), false)]) := by kernel_rfl
end

section
variable {M : Mem} {O : Org} {u : Option (Nat × Nat)} {n c : Nat} {most : Int}
/-- What holds before a round. -/
structure RunI (M : Mem) (O : Org) (u : Option (Nat × Nat)) (n c : Nat) (most : Int) (N r : Nat) (H : List Ev) (now sw : Int) (L : List Bk) (p : Int × Int) (zz : Bool) (a : Go.Act) (w : World) : Prop where
  first : zz = true → L = []
  valid : ValidL most sw now L
  keys : ∀ b ∈ L, KeyOk b.k
  rate : RateI H now L
  src : SrcOk M u n p
  le : now ≤ 1000000000 + 1000000001 * r
  len : H.length = r
  at_ : AtV M O Try.f4.ntmps live4 (v4 now r ((N : Int) - r) []) (hp4 u n c p most sw (slZ zz 5 L.length) (tT H) (tK H) (tP H) (tlB zz (rowsL L))) [] (fun _ _ => False) a w

theorem roundL (hO : O.h = []) {N r : Nat} (hN : N ≤ 60) (hr : r < N) {H : List Ev} {now sw : Int} {L : List Bk} {p : Int × Int} {zz : Bool} {a : Go.Act} {w : World} (I : RunI M O u n c most N r H now sw L p zz a w) :
    l4.wp Try.prog (fun e a1 w1 => e = .normal ∧ ∃ H now sw L p zz, RunI M O u n c most N (r + 1) H now sw L p zz a1 w1) a w := by
  obtain ⟨hz, hv, hks, hrate, hsrc, hle, hlen, hat⟩ := I
  have h0 := hv.1.h0
  refine wp_items l4 ?_
  rw [itemsL4]
  show wpL Try.prog _ ([itemN l4 0, itemN l4 1] ++ [.block 1 x4, itemN l4 3]) a w
  refine hat.items (ovS_ok shT _ _) nilC mix (fun c _ => hooksOk_nil c) (fun z => fg_t M u n c p most sw now _ _ _ _ _ z _ _) (held_one (decide_eq_true (by omega))) rfl (fun _ a1 w1 h1 => ?_) fun hne => absurd rfl hne
  refine wpL_cons (R := fun a2 w2 => ∃ p' now' b, SrcOk M u n p' ∧ now ≤ now' ∧ now' ≤ now + 1000000001 ∧ byteB b ∧
      AtV M O Try.f4.ntmps live4 (v4 now' (r + 1) ((N : Int) - r) []) (hp4 u n c p' most (swB sw now') (slZ false 5 (allowL most sw now' (kyD b) L).2.length) (tT H ++ [.int .i64 now']) (tK H ++ kc (kyD b)) (tP H ++ [.bool (allowL most sw now' (kyD b) L).1]) (tlB false (rowsL (allowL most sw now' (kyD b) L).2))) [] (fun _ _ => False) a2 w2) (wp_block_items ?_) fun a2 w2 h2 => ?_
  · rw [itemsX4]
    refine stepA hsrc h0 (by omega) h1 fun p' now' b hs' hn1 hn2 hb a2 w2 h2 => ?_
    have hv' := valid_later hv hn1
    have hnow : now' ≤ 9223372036854775807 := by omega
    have hL : L.length ≤ 4096 := by have := hv.1.h2; have := hv.1.h3; omega
    have hW := allow_len most sw now' (kyD b) L
    refine stepB hO hv' hnow hb hks hz h2 fun a3 w3 h3 => ?_
    refine stepW hO (by omega) h3 fun a4 w4 h4 => ?_
    refine stepO hO (by omega) hz h4 fun a5 w5 h5 => ?_
    refine stepE hv' hnow hb hks hz h5 fun a6 w6 h6 => ?_
    refine stepF hO (by omega) (by rw [tT_len]; exact hlen) (by rw [tK_len, hlen]) (by rw [tP_len]; exact hlen) (idle_long hv' hnow) (idle_new hv' hnow) h6 fun a7 w7 h7 => ?_
    exact ⟨rfl, p', now', b, hs', hn1, hn2, hb, h7⟩
  · obtain ⟨p', now', b, hs', hn1, hn2, hb, h2⟩ := h2
    have hv' := valid_later hv hn1
    have hnow : now' ≤ 9223372036854775807 := by omega
    refine wpL_end ?_
    show wpL Try.prog _ ([itemN l4 3] ++ []) a2 w2
    refine h2.items (ovS_ok shT _ _) nilC mix (fun c _ => hooksOk_nil c) (fun z => f_dec M u n c p' most (swB sw now') now' _ _ _ _ _ _ z _) (fun x hx => by cases hx) rfl (fun _ a3 w3 h3 => ⟨rfl, ?_⟩) fun hne => absurd rfl hne
    refine ⟨H ++ [evA most sw now' (kyD b) L], now', swB sw now', (allowL most sw now' (kyD b) L).2, p', false, (fun h => by cases h), (valid_allow hv' hnow).1, keys_allow (kyD_ok hb) hks, hrate.step hn1 hv' hnow, hs', (by omega), (by simp [hlen]), ?_⟩
    rw [tT_snoc, tK_snoc, tP_snoc]
    have ek : IntKind.i64.wrap ((N : Int) - r - 1) = (N : Int) - ((r + 1 : Nat) : Int) := by rw [Ab.wrap_i64 (by omega) (by omega)]; omega
    rw [ek] at h3
    exact h3

/-- All rounds. -/
theorem roundsL (hO : O.h = []) {N : Nat} (hN : N ≤ 60) {now : Int} {p : Int × Int} {a : Go.Act} {w : World} (I : RunI M O u n c most N 0 [] now 0 [] p true a w) {Q : Exit → Go.Act → World → Prop} {rest : List Code}
    (k1 : ∀ H now L p' sw s x, RateI H now L → H.length ≤ 60 → now ≤ 100000000000 → ∀ a1 w1, AtV M O Try.f4.ntmps [6, 7, 8] [.slice (some ⟨2, 0, some H.length⟩) H.length H.length, .slice (some ⟨3, 0, some (H.length * 9)⟩) H.length H.length, .slice (some ⟨4, 0, some H.length⟩) H.length H.length] (hp4 u n c p' most sw s (tT H) (tK H) (tP H) x) [] (fun _ _ => False) a1 w1 → wpL Try.prog Q rest a1 w1) :
    wpL Try.prog Q (.block 0 (.loop l4) :: rest) a w := by
  refine wpL_cons (R := fun a1 w1 => ∃ H now L p' sw s x, RateI H now L ∧ H.length ≤ 60 ∧ now ≤ 100000000000 ∧ AtV M O Try.f4.ntmps [6, 7, 8] [.slice (some ⟨2, 0, some H.length⟩) H.length H.length, .slice (some ⟨3, 0, some (H.length * 9)⟩) H.length H.length, .slice (some ⟨4, 0, some H.length⟩) H.length H.length] (hp4 u n c p' most sw s (tT H) (tK H) (tP H) x) [] (fun _ _ => False) a1 w1)
    (wp_block (wp_loop_idx (fun r a w => ∃ H now sw L p zz, RunI M O u n c most N r H now sw L p zz a w) N ⟨[], now, 0, [], p, true, I⟩ (fun r a w hr ⟨H, now, sw, L, p, zz, I⟩ => roundL hO hN hr I) fun a w ⟨H, now, sw, L, p, zz, I⟩ => ?_)) fun a2 w2 h2 => ?_
  · refine wp_items l4 ?_
    rw [itemsL4]
    show wpL Try.prog _ ([itemN l4 0, itemN l4 1] ++ [.block 1 x4, itemN l4 3]) a w
    refine I.at_.items (ovS_ok shT _ _) nilC mix (fun c _ => hooksOk_nil c) (fun z => fg_x M u n c p most sw now _ _ _ _ _ z _ _) (held_one (decide_eq_false (by omega))) rfl (fun he => by cases he) fun _ a2 w2 h2 => ⟨by simp [AExit.to], rfl, H, now, L, p, sw, slZ zz 5 L.length, tlB zz (rowsL L), I.rate, (by have := I.len; omega), (by have := I.le; omega), ?_⟩
    rw [← I.len] at h2
    exact h2
  · obtain ⟨H, now, L, p', sw, s, x, h1, h2, h3, h4⟩ := h2
    exact k1 H now L p' sw s x h1 h2 h3 a2 w2 h4
end
end Go.Proofs.Ytfkdcpinajnbfaa

open Go.Ab
set_option linter.unusedVariables false
set_option linter.unusedSimpArgs false
namespace Go.Proofs.Ytfkdcpinajnbfaa
set_option maxRecDepth 100000
abbrev sl3 (h : Nat) : List Value := [.slice (some ⟨2, 0, some h⟩) h h, .slice (some ⟨3, 0, some (h * 9)⟩) h h, .slice (some ⟨4, 0, some h⟩) h h]
def kyAt (K : List Value) (o : Nat) : Key := ⟨vint (atC K (o + 0)), vint (atC K (o + 1)), vint (atC K (o + 2)), vint (atC K (o + 3)), vint (atC K (o + 4)), vint (atC K (o + 5)), vint (atC K (o + 6)), vint (atC K (o + 7)), vint (atC K (o + 8))⟩
def tAt (T : List Value) (j : Int) : Int := vint (atC T (0 + j.toNat * 1))
def okPn (P : List Value) (h : Nat) (j : Int) (b : Bool) : Pins := [(inB j h, true), (ldBo ⟨P, true, 1, true⟩ h (0 + j.toNat * 1), true), (vbool (atC P (0 + j.toNat * 1)), b)]
def kyPn (K : List Value) (h : Nat) (j : Int) : Pins := [(inB j h, true), (arrB ⟨K, true, 9, true⟩ (h * 9) (0 + j.toNat * 9) 9 .u8, true)]
def tmPn (T : List Value) (h : Nat) (j : Int) : Pins := [(inB j h, true), (ldB .i64 ⟨T, true, 1, true⟩ h (0 + j.toNat * 1), true)]
def lmPn (T : List Value) (i j m : Int) : Pins := [(decide (m > IntKind.wrap .i64 (5 + IntKind.wrap .i64 ((IntKind.wrap .i64 (tAt T j - tAt T i)).tdiv 50000000))), false)]
abbrev lvE : List Nat := [6, 7, 8, 179, 180]
abbrev lvI : List Nat := [6, 7, 8, 179, 180, 20, 21, 22]
section
variable (M : Mem) (u : Option (Nat × Nat)) (n c : Nat) (p : Int × Int) (most sw : Int) (h : Nat) (i j m : Int) (T K P : List Value) (z : Nat → Value) (s : Value) (x : AHeap)
theorem fz_h : viewU lvE (evL Try.prog M (ovB shT Try.prog M) [] [] [] [] 300 [itemN c4 11] ⟨mkT Try.f4.ntmps [6, 7, 8] (sl3 h) z, hp4 u n c p most sw s T K P x⟩ [])
   = some (.normal, sl3 h ++ [.int .i64 h, .int .i64 0], hp4 u n c p most sw s T K P x, Try.f4.ntmps, []) := by kernel_rfl
theorem fz_t : viewU lvE (evL Try.prog M (ovB shT Try.prog M) [] [] [] [181] 300 [itemN el4 0, itemN el4 1] ⟨mkT Try.f4.ntmps lvE (sl3 h ++ [.int .i64 h, .int .i64 i]) z, hp4 u n c p most sw s T K P x⟩ [true])
   = some (.normal, sl3 h ++ [.int .i64 h, .int .i64 i], hp4 u n c p most sw s T K P x, Try.f4.ntmps, [(decide (i < (h : Int)), true)]) := by kernel_rfl
theorem fz_x : viewU [] (evL Try.prog M (ovB shT Try.prog M) [] [] [] [181] 300 [itemN el4 0, itemN el4 1] ⟨mkT Try.f4.ntmps lvE (sl3 h ++ [.int .i64 h, .int .i64 i]) z, hp4 u n c p most sw s T K P x⟩ [false])
   = some (.exit 7, [], hp4 u n c p most sw s T K P x, Try.f4.ntmps, [(decide (i < (h : Int)), false)]) := by kernel_rfl
theorem fz_s : viewU lvI (evL Try.prog M (ovB shT Try.prog M) [] [] [] [] 300 [itemN eb4 0, itemN eb4 1, itemN eb4 2] ⟨mkT Try.f4.ntmps lvE (sl3 h ++ [.int .i64 h, .int .i64 i]) z, hp4 u n c p most sw s T K P x⟩ [])
   = some (.normal, sl3 h ++ [.int .i64 h, .int .i64 i, .int .i64 i, .int .i64 0, .int .i64 i], hp4 u n c p most sw s T K P x, Try.f4.ntmps, []) := by kernel_rfl
theorem fi_t : viewU lvI (evL Try.prog M (ovB shT Try.prog M) [] [] [] [187] 300 [itemN fl4 0, itemN fl4 1] ⟨mkT Try.f4.ntmps lvI (sl3 h ++ [.int .i64 h, .int .i64 i, .int .i64 i, .int .i64 m, .int .i64 j]) z, hp4 u n c p most sw s T K P x⟩ [true])
   = some (.normal, sl3 h ++ [.int .i64 h, .int .i64 i, .int .i64 i, .int .i64 m, .int .i64 j], hp4 u n c p most sw s T K P x, Try.f4.ntmps, [(decide (j < (h : Int)), true)]) := by kernel_rfl
theorem fi_x : viewU lvE (evL Try.prog M (ovB shT Try.prog M) [] [] [] [187] 300 [itemN fl4 0, itemN fl4 1] ⟨mkT Try.f4.ntmps lvI (sl3 h ++ [.int .i64 h, .int .i64 i, .int .i64 i, .int .i64 m, .int .i64 j]) z, hp4 u n c p most sw s T K P x⟩ [false])
   = some (.exit 9, sl3 h ++ [.int .i64 h, .int .i64 i], hp4 u n c p most sw s T K P x, Try.f4.ntmps, [(decide (j < (h : Int)), false)]) := by kernel_rfl
theorem fi_A : viewU lvI (evL Try.prog M (ovB shT Try.prog M) [192, 193, 197, 198, 201, 202, 210, 211, 214, 215] [] [] [193, 203, 219] 300 [itemN fb4 0, itemN fb4 1, itemN fb4 2, itemN fb4 3] ⟨mkT Try.f4.ntmps lvI (sl3 h ++ [.int .i64 h, .int .i64 i, .int .i64 i, .int .i64 m, .int .i64 j]) z, hp4 u n c p most sw s T K P x⟩ [true, true, false])
   = some (.normal, sl3 h ++ [.int .i64 h, .int .i64 i, .int .i64 i, .int .i64 (IntKind.wrap .i64 (m + 1)), .int .i64 j], hp4 u n c p most sw s T K P x, Try.f4.ntmps, okPn P h j true ++ kyPn K h j ++ kyPn K h i ++ [(keqB (kyAt K (0 + j.toNat * 9)) (kyAt K (0 + i.toNat * 9)), true)] ++ tmPn T h j ++ tmPn T h i ++ lmPn T i j (IntKind.wrap .i64 (m + 1))) := by kernel_rfl
theorem fi_B : viewU lvI (evL Try.prog M (ovB shT Try.prog M) [192, 193, 197, 198, 201, 202, 210, 211, 214, 215] [] [] [193, 203, 219] 300 [itemN fb4 0, itemN fb4 1, itemN fb4 2, itemN fb4 3] ⟨mkT Try.f4.ntmps lvI (sl3 h ++ [.int .i64 h, .int .i64 i, .int .i64 i, .int .i64 m, .int .i64 j]) z, hp4 u n c p most sw s T K P x⟩ [true, false, false])
   = some (.normal, sl3 h ++ [.int .i64 h, .int .i64 i, .int .i64 i, .int .i64 m, .int .i64 j], hp4 u n c p most sw s T K P x, Try.f4.ntmps, okPn P h j true ++ kyPn K h j ++ kyPn K h i ++ [(keqB (kyAt K (0 + j.toNat * 9)) (kyAt K (0 + i.toNat * 9)), false)] ++ tmPn T h j ++ tmPn T h i ++ lmPn T i j m) := by kernel_rfl
theorem fi_C : viewU lvI (evL Try.prog M (ovB shT Try.prog M) [192, 193, 197, 198, 201, 202, 210, 211, 214, 215] [] [] [193, 203, 219] 300 [itemN fb4 0, itemN fb4 1, itemN fb4 2, itemN fb4 3] ⟨mkT Try.f4.ntmps lvI (sl3 h ++ [.int .i64 h, .int .i64 i, .int .i64 i, .int .i64 m, .int .i64 j]) z, hp4 u n c p most sw s T K P x⟩ [false, false])
   = some (.normal, sl3 h ++ [.int .i64 h, .int .i64 i, .int .i64 i, .int .i64 m, .int .i64 j], hp4 u n c p most sw s T K P x, Try.f4.ntmps, okPn P h j false ++ tmPn T h j ++ tmPn T h i ++ lmPn T i j m) := by kernel_rfl
theorem fi_n : viewU lvI (evL Try.prog M (ovB shT Try.prog M) [] [] [] [] 300 [itemN fl4 3] ⟨mkT Try.f4.ntmps lvI (sl3 h ++ [.int .i64 h, .int .i64 i, .int .i64 i, .int .i64 m, .int .i64 j]) z, hp4 u n c p most sw s T K P x⟩ [])
   = some (.normal, sl3 h ++ [.int .i64 h, .int .i64 i, .int .i64 i, .int .i64 m, .int .i64 (IntKind.wrap .i64 (j + 1))], hp4 u n c p most sw s T K P x, Try.f4.ntmps, []) := by kernel_rfl
theorem fz_n : viewU lvE (evL Try.prog M (ovB shT Try.prog M) [] [] [] [] 300 [itemN el4 3] ⟨mkT Try.f4.ntmps lvE (sl3 h ++ [.int .i64 h, .int .i64 i]) z, hp4 u n c p most sw s T K P x⟩ [])
   = some (.normal, sl3 h ++ [.int .i64 h, .int .i64 (IntKind.wrap .i64 (i + 1))], hp4 u n c p most sw s T K P x, Try.f4.ntmps, []) := by kernel_rfl
theorem fz_e : viewU [2] (evL Try.prog M (ovB shT Try.prog M) [] [] [] [] 300 [itemN c4 13, itemN c4 14] ⟨mkT Try.f4.ntmps [] [] z, hp4 u n c p most sw s T K P x⟩ [])
   = some (.ret, [.bool true], hp4 u n c p most sw s T K P x, Try.f4.ntmps, []) := by kernel_rfl
end

/-! ### What is read of the rows -/
theorem tT_at {H : List Ev} {i : Nat} {e : Ev} (h : H[i]? = some e) : atC (tT H) (0 + (i : Int).toNat * 1) = .int .i64 e.t := by
  rw [Int.toNat_natCast, Nat.zero_add, Nat.mul_one]
  simp [atC, tT, h]
theorem tP_at {H : List Ev} {i : Nat} {e : Ev} (h : H[i]? = some e) : atC (tP H) (0 + (i : Int).toNat * 1) = .bool e.ok := by
  rw [Int.toNat_natCast, Nat.zero_add, Nat.mul_one]
  simp [atC, tP, h]
theorem tK_at : ∀ {H : List Ev} {i : Nat} {e : Ev}, H[i]? = some e → ∀ q, q < 9 → atC (tK H) (0 + (i : Int).toNat * 9 + q) = atC (kc e.k) q := by
  intro H
  induction H with
  | nil => intro i e h; simp at h
  | cons a H ih =>
    intro i e h q hq
    have hc : tK (a :: H) = kc a.k ++ tK H := rfl
    have hl : (kc a.k).length = 9 := rfl
    cases i with
    | zero =>
      simp at h
      subst h
      rw [hc]
      show atC (kc a.k ++ tK H) (0 + 0 * 9 + q) = _
      unfold atC
      rw [List.getElem?_append_left (by omega)]
      simp
    | succ i =>
      have h1 : H[i]? = some e := by simpa using h
      have h2 := ih h1 q hq
      rw [Int.toNat_natCast] at h2 ⊢
      rw [hc, ← h2]
      unfold atC
      rw [List.getElem?_append_right (by omega), hl]
      congr 2
      omega
theorem kyAt_eq {H : List Ev} {i : Nat} {e : Ev} (h : H[i]? = some e) : kyAt (tK H) (0 + (i : Int).toNat * 9) = e.k := by
  unfold kyAt
  rw [tK_at h 0 (by decide), tK_at h 1 (by decide), tK_at h 2 (by decide), tK_at h 3 (by decide), tK_at h 4 (by decide), tK_at h 5 (by decide), tK_at h 6 (by decide), tK_at h 7 (by decide), tK_at h 8 (by decide)]
  rfl
theorem inB_of {H : List Ev} {i : Nat} {e : Ev} (h : H[i]? = some e) : inB (i : Int) H.length = true := by
  have := (List.getElem?_eq_some_iff.1 h).1
  rw [inB_iff]; omega
theorem okPn_held {H : List Ev} {j : Nat} {e : Ev} (h : H[j]? = some e) : Held (okPn (tP H) H.length j e.ok) := by
  refine held_cons (inB_of h) (held_cons ?_ (held_one ?_))
  · unfold ldBo
    rw [tP_at h]
    simp [tP_len, isB]
  · rw [tP_at h]; rfl
theorem tmPn_held {H : List Ev} {j : Nat} {e : Ev} (h : H[j]? = some e) : Held (tmPn (tT H) H.length j) := by
  refine held_cons (inB_of h) (held_one ?_)
  unfold ldB
  rw [tT_at h]
  simp [tT_len, isI]
theorem kyPn_held {H : List Ev} {j : Nat} {e : Ev} (h : H[j]? = some e) : Held (kyPn (tK H) H.length j) := by
  have hj := (List.getElem?_eq_some_iff.1 h).1
  refine held_cons (inB_of h) (held_one ?_)
  simp only [arrB, tK_len, decide_true, Bool.true_and, Bool.and_eq_true, decide_eq_true_eq, List.all_eq_true, List.mem_range]
  refine ⟨by rw [Int.toNat_natCast]; omega, fun q hq => ?_⟩
  rw [tK_at h q hq]
  match q, hq with
  | 0, _ => rfl
  | 1, _ => rfl
  | 2, _ => rfl
  | 3, _ => rfl
  | 4, _ => rfl
  | 5, _ => rfl
  | 6, _ => rfl
  | 7, _ => rfl
  | 8, _ => rfl
theorem lmPn_held {H : List Ev} {now : Int} {L : List Bk} (hR : RateI H now L) (hnow : now ≤ 100000000000) {i j : Nat} {x y : Ev} (hij : i ≤ j) (hx : H[i]? = some x) (hy : H[j]? = some y) {m : Int} (hm : m = cntE x.k ((H.drop i).take (j + 1 - i))) : Held (lmPn (tT H) i j m) := by
  have h1 := hR.test hij hx hy x.k
  have a1 := hR.nn x (List.mem_of_getElem? hx)
  have a2 := hR.nn y (List.mem_of_getElem? hy)
  have b1 := hR.le x (List.mem_of_getElem? hx)
  have b2 := hR.le y (List.mem_of_getElem? hy)
  have h2 : x.t ≤ y.t := by
    by_cases he : i = j
    · subst he; rw [hx] at hy; cases hy; exact Int.le_refl _
    · obtain ⟨hi, rfl⟩ := List.getElem?_eq_some_iff.1 hx
      obtain ⟨hj, rfl⟩ := List.getElem?_eq_some_iff.1 hy
      have := hR.sorted
      rw [List.pairwise_iff_getElem] at this
      exact this i j hi hj (by omega)
  refine held_one ?_
  unfold tAt
  rw [tT_at hx, tT_at hy]
  show decide (m > IntKind.i64.wrap (5 + IntKind.i64.wrap ((IntKind.i64.wrap (y.t - x.t)).tdiv 50000000))) = false
  rw [decide_eq_false_iff_not, Ab.wrap_i64 (n := y.t - x.t) (by omega) (by omega)]
  rw [Int.tdiv_eq_ediv_of_nonneg (by omega)] at h1 ⊢
  rw [Ab.wrap_i64 (n := (y.t - x.t) / 50000000) (by omega) (by omega), Ab.wrap_i64 (by omega) (by omega)]
  omega
end Go.Proofs.Ytfkdcpinajnbfaa

open Go.Ab
set_option linter.unusedVariables false
set_option linter.unusedSimpArgs false
namespace Go.Proofs.Ytfkdcpinajnbfaa
set_option maxRecDepth 100000
def argV (u : Option (Nat × Nat)) (n c : Nat) : Value := match u with
  | some (b, off) => .slice (some ⟨b, off, none⟩) n c
  | none => .slice none 0 0
def lenV (n : Nat) : Int := IntKind.wrap .i64 (2 + IntKind.wrap .i64 ((n : Int).tdiv 2))
def lenR (n : Nat) (k : Int) : Int := if lenV n > k then k else lenV n
def lenSum : Sum :=
  { f := 15, ro := true
    S := fun args os => match args, os with
      | [.slice (some ⟨b, off, none⟩) n c, .int .i64 k], [] => some (.int .i64 (lenR n k), [], [])
      | [.slice none 0 0, .int .i64 k], [] => some (.int .i64 (lenR 0 k), [], [])
      | _, _ => none }
theorem l15a (M : Mem) (u : Option (Nat × Nat)) (n c : Nat) (k : Int) : evFU Try.prog M (ovD Try.prog M) [] [] [] [12] 300 Try.f15 [argV u n c, .int .i64 k] [] [true] = some ((.int .i64 k, [], []), [(decide (lenV (Go.Ab.lenS u n) > k), true)]) := by cases u <;> kernel_rfl
theorem l15b (M : Mem) (u : Option (Nat × Nat)) (n c : Nat) (k : Int) : evFU Try.prog M (ovD Try.prog M) [] [] [] [12] 300 Try.f15 [argV u n c, .int .i64 k] [] [false] = some ((.int .i64 (lenV (Go.Ab.lenS u n)), [], []), [(decide (lenV (Go.Ab.lenS u n) > k), false)]) := by cases u <;> kernel_rfl
theorem l15 (M : Mem) (u : Option (Nat × Nat)) (n c : Nat) (k : Int) : ACalls Try.prog M 15 [argV u n c, .int .i64 k] [] (.int .i64 (lenR (Go.Ab.lenS u n) k)) [] [] := by
  unfold lenR
  split
  · rename_i h
    exact acalls_of_evFU (ovD_ok _ _) nilC mix Try.func15 (hooksOk_nil _) (l15a M u n c k) (held_one (decide_eq_true h))
  · rename_i h
    exact acalls_of_evFU (ovD_ok _ _) nilC mix Try.func15 (hooksOk_nil _) (l15b M u n c k) (held_one (decide_eq_false h))
theorem lenSs (M : Mem) : lenSum.Sound Try.prog M := by
  refine sum_sound Try.func15 (by kernel_rfl) (by kernel_rfl) fun args os v os' ns hs => ?_
  simp only [lenSum] at hs
  split at hs
  · rename_i b off n c k
    cases hs
    exact ⟨l15 M (some (b, off)) n c k, fun _ => rfl⟩
  · rename_i k
    cases hs
    exact ⟨l15 M none 0 0 k, fun _ => rfl⟩
  · cases hs
noncomputable def I13 (M : Mem) : Sum := inl Try.prog M (fns []) 300 13 Try.f13
theorem I13s (M : Mem) : (I13 M).Sound Try.prog M := inl_sound fns_nil mix Try.func13 (by kernel_rfl) (by kernel_rfl)
theorem lenR_bound {n : Nat} (h : n ≤ 1048576) : 1 ≤ lenR n 57 ∧ lenR n 57 ≤ 57 := by
  unfold lenR lenV
  rw [Int.tdiv_eq_ediv_of_nonneg (by omega), Ab.wrap_i64 (n := (n : Int) / 2) (by omega) (by omega), Ab.wrap_i64 (by omega) (by omega)]
  split <;> omega
section
variable (M : Mem) (u : Option (Nat × Nat)) (n c : Nat)
abbrev d4 (M : Mem) (u : Option (Nat × Nat)) (n : Nat) : Nat → Int × Int := dw M u n (seedC (Go.Ab.lenS u n))
theorem fs_s : viewU live4 (evL Try.prog M (ovS shT Try.prog M) [] [] [I13 M, nSumG M 14, lenSum] [25] 300 [itemN c4 0, itemN c4 1, itemN c4 2, itemN c4 3, itemN c4 4, itemN c4 5, itemN c4 6, itemN c4 7, itemN c4 8, itemN c4 9] ⟨[argV u n c] ++ List.replicate (Try.f4.ntmps - 1) undef, []⟩ [false])
   = some (.normal, v4 (nK 1000000000 (d4 M u n 1).1) 0 (IntKind.wrap .i64 (3 + nK (lenR (Go.Ab.lenS u n) 57) (d4 M u n 3).1)) [], hp4 u n c (d4 M u n 3) (IntKind.wrap .i64 (1 + nK 5 (d4 M u n 2).1)) 0 (.slice none 0 0) [] [] [] [], Try.f4.ntmps,
      [(decide ((Go.Ab.lenS u n : Int) > 1048576), false)] ++ dp M u n (seedC (Go.Ab.lenS u n)) 0 1000000000 ++ dp M u n (seedC (Go.Ab.lenS u n)) 1 5 ++ dp M u n (seedC (Go.Ab.lenS u n)) 2 (lenR (Go.Ab.lenS u n) 57)) := by
  cases u <;> kernel_rfl
theorem fs_l : evFU Try.prog M (ovS shT Try.prog M) [] [] [] [25] 300 Try.f4 [argV u n c] [] [true]
   = some ((.bool true, [], []), [(decide ((Go.Ab.lenS u n : Int) > 1048576), true)]) := by cases u <;> kernel_rfl
end
end Go.Proofs.Ytfkdcpinajnbfaa

open Go.Ab
set_option linter.unusedVariables false
set_option linter.unusedSimpArgs false
namespace Go.Proofs.Ytfkdcpinajnbfaa
set_option maxRecDepth 100000
section
variable {M : Mem} {O : Org} {u : Option (Nat × Nat)} {n c : Nat} {p : Int × Int} {most sw : Int} {s : Value} {x : AHeap} {H : List Ev}
abbrev JI (M : Mem) (O : Org) (u : Option (Nat × Nat)) (n c : Nat) (p : Int × Int) (most sw : Int) (s : Value) (x : AHeap) (H : List Ev) (e : Ev) (i d : Nat) (a : Go.Act) (w : World) : Prop :=
  AtV M O Try.f4.ntmps lvI (sl3 H.length ++ [.int .i64 H.length, .int .i64 i, .int .i64 i, .int .i64 (cntE e.k ((H.drop i).take d)), .int .i64 ((i + d : Nat) : Int)]) (hp4 u n c p most sw s (tT H) (tK H) (tP H) x) [] (fun _ _ => False) a w
abbrev JE (M : Mem) (O : Org) (u : Option (Nat × Nat)) (n c : Nat) (p : Int × Int) (most sw : Int) (s : Value) (x : AHeap) (H : List Ev) (i : Nat) (a : Go.Act) (w : World) : Prop :=
  AtV M O Try.f4.ntmps lvE (sl3 H.length ++ [.int .i64 H.length, .int .i64 i]) (hp4 u n c p most sw s (tT H) (tK H) (tP H) x) [] (fun _ _ => False) a w

theorem roundI {now : Int} {L : List Bk} (hR : RateI H now L) (hlen : H.length ≤ 60) (hnow : now ≤ 100000000000) {i d : Nat} {e y : Ev} (hx : H[i]? = some e) (hy : H[i + d]? = some y) {a : Go.Act} {w : World} (h : JI M O u n c p most sw s x H e i d a w) :
    fl4.wp Try.prog (fun ex a1 w1 => ex = .normal ∧ JI M O u n c p most sw s x H e i (d + 1) a1 w1) a w := by
  have hj := (List.getElem?_eq_some_iff.1 hy).1
  have hsn : (H.drop i).take (d + 1) = (H.drop i).take d ++ [y] := by rw [List.take_add_one, List.getElem?_drop, hy]; rfl
  have hcnt := cntE_snoc e.k ((H.drop i).take d) y
  rw [← hsn] at hcnt
  have hc1 : cntE e.k ((H.drop i).take d) ≤ 60 := Nat.le_trans (List.length_filter_le _ _) (by rw [List.length_take, List.length_drop]; omega)
  have hlm : ∀ m : Int, m = cntE e.k ((H.drop i).take (d + 1)) → Held (lmPn (tT H) i ((i + d : Nat) : Int) m) := fun m hm => lmPn_held hR hnow (Nat.le_add_right i d) hx hy (by rw [hm, show i + d + 1 - i = d + 1 by omega])
  refine wp_items fl4 ?_
  rw [itemsFL4]
  show wpL Try.prog _ ([itemN fl4 0, itemN fl4 1] ++ [.block 10 fb4, itemN fl4 3]) a w
  refine h.items (ovB_ok shT _ _) nilC mix (fun c _ => hooksOk_nil c) (fun z => fi_t M u n c p most sw H.length i _ _ _ _ _ z _ _) (held_one (decide_eq_true (by omega))) rfl (fun _ a1 w1 h1 => ?_) fun hne => absurd rfl hne
  refine wpL_cons (R := fun a2 w2 => AtV M O Try.f4.ntmps lvI (sl3 H.length ++ [.int .i64 H.length, .int .i64 i, .int .i64 i, .int .i64 (cntE e.k ((H.drop i).take (d + 1))), .int .i64 ((i + d : Nat) : Int)]) (hp4 u n c p most sw s (tT H) (tK H) (tP H) x) [] (fun _ _ => False) a2 w2) (wp_block_items ?_) fun a2 w2 h2 => ?_
  · rw [itemsFB4]
    refine wpL_end ?_
    show wpL Try.prog _ ([itemN fb4 0, itemN fb4 1, itemN fb4 2, itemN fb4 3] ++ []) a1 w1
    cases hok : y.ok with
    | false =>
      have ec : (cntE e.k ((H.drop i).take d) : Int) = cntE e.k ((H.drop i).take (d + 1)) := by rw [hcnt, if_neg (fun h => by rw [hok] at h; cases h.2)]; omega
      have hp := okPn_held hy
      rw [hok] at hp
      rw [ec] at h1
      exact h1.items (ovB_ok shT _ _) nilC mix (fun c _ => hooksOk_nil c) (fun z => fi_C M u n c p most sw H.length i _ _ _ _ _ z _ _) (held_two (held_two (held_two hp (tmPn_held hy)) (tmPn_held hx)) (hlm _ rfl)) rfl (fun _ a2 w2 h2 => ⟨rfl, h2⟩) fun hne => absurd rfl hne
    | true =>
      have hp := okPn_held hy
      rw [hok] at hp
      by_cases hk : y.k = e.k
      · have ec : IntKind.wrap .i64 ((cntE e.k ((H.drop i).take d) : Int) + 1) = cntE e.k ((H.drop i).take (d + 1)) := by rw [hcnt, if_pos ⟨hk.symm, hok⟩, Ab.wrap_i64 (by omega) (by omega)]
        refine h1.items (ovB_ok shT _ _) nilC mix (fun c _ => hooksOk_nil c) (fun z => fi_A M u n c p most sw H.length i _ _ _ _ _ z _ _) (held_two (held_two (held_two (held_two (held_two (held_two hp (kyPn_held hy)) (kyPn_held hx)) (held_one (by rw [kyAt_eq hy, kyAt_eq hx, keqB_eq]; exact decide_eq_true hk))) (tmPn_held hy)) (tmPn_held hx)) (hlm _ ec)) rfl (fun _ a2 w2 h2 => ⟨rfl, ?_⟩) fun hne => absurd rfl hne
        rw [ec] at h2
        exact h2
      · have ec : (cntE e.k ((H.drop i).take d) : Int) = cntE e.k ((H.drop i).take (d + 1)) := by rw [hcnt, if_neg (fun h => hk h.1.symm)]; omega
        rw [ec] at h1
        exact h1.items (ovB_ok shT _ _) nilC mix (fun c _ => hooksOk_nil c) (fun z => fi_B M u n c p most sw H.length i _ _ _ _ _ z _ _) (held_two (held_two (held_two (held_two (held_two (held_two hp (kyPn_held hy)) (kyPn_held hx)) (held_one (by rw [kyAt_eq hy, kyAt_eq hx, keqB_eq]; exact decide_eq_false hk))) (tmPn_held hy)) (tmPn_held hx)) (hlm _ rfl)) rfl (fun _ a2 w2 h2 => ⟨rfl, h2⟩) fun hne => absurd rfl hne
  · refine wpL_end ?_
    show wpL Try.prog _ ([itemN fl4 3] ++ []) a2 w2
    refine h2.items (ovB_ok shT _ _) nilC mix (fun c _ => hooksOk_nil c) (fun z => fi_n M u n c p most sw H.length i _ _ _ _ _ z _ _) (fun x hx => by cases hx) rfl (fun _ a3 w3 h3 => ⟨rfl, ?_⟩) fun hne => absurd rfl hne
    rw [wrap_next hj (by omega)] at h3
    exact h3

theorem roundE {now : Int} {L : List Bk} (hR : RateI H now L) (hlen : H.length ≤ 60) (hnow : now ≤ 100000000000) {i : Nat} (hi : i < H.length) {a : Go.Act} {w : World} (h : JE M O u n c p most sw s x H i a w) :
    el4.wp Try.prog (fun ex a1 w1 => ex = .normal ∧ JE M O u n c p most sw s x H (i + 1) a1 w1) a w := by
  obtain ⟨e, hx⟩ : ∃ e, H[i]? = some e := ⟨_, List.getElem?_eq_getElem hi⟩
  refine wp_items el4 ?_
  rw [itemsEL4]
  show wpL Try.prog _ ([itemN el4 0, itemN el4 1] ++ [.block 8 eb4, itemN el4 3]) a w
  refine h.items (ovB_ok shT _ _) nilC mix (fun c _ => hooksOk_nil c) (fun z => fz_t M u n c p most sw H.length i _ _ _ z _ _) (held_one (decide_eq_true (by omega))) rfl (fun _ a1 w1 h1 => ?_) fun hne => absurd rfl hne
  refine wpL_cons (R := JE M O u n c p most sw s x H i) (wp_block_items ?_) fun a2 w2 h2 => ?_
  · rw [itemsEB4]
    show wpL Try.prog _ ([itemN eb4 0, itemN eb4 1, itemN eb4 2] ++ [.block 9 (.loop fl4)]) a1 w1
    refine h1.items (ovB_ok shT _ _) nilC mix (fun c _ => hooksOk_nil c) (fun z => fz_s M u n c p most sw H.length i _ _ _ z _ _) (fun x hx => by cases hx) rfl (fun _ a2 w2 h2 => ?_) fun hne => absurd rfl hne
    refine wpL_cons (r := []) (R := JE M O u n c p most sw s x H i) (wp_block (wp_loop_idx (JI M O u n c p most sw s x H e i) (H.length - i) h2 (fun d a w hd h => ?_) fun a w h => ?_)) fun a3 w3 h3 => ⟨rfl, h3⟩
    · obtain ⟨y, hy⟩ : ∃ y, H[i + d]? = some y := ⟨_, List.getElem?_eq_getElem (by omega)⟩
      exact roundI hR hlen hnow hx hy h
    · refine wp_items fl4 ?_
      rw [itemsFL4]
      show wpL Try.prog _ ([itemN fl4 0, itemN fl4 1] ++ [.block 10 fb4, itemN fl4 3]) a w
      exact h.items (ovB_ok shT _ _) nilC mix (fun c _ => hooksOk_nil c) (fun z => fi_x M u n c p most sw H.length i _ _ _ _ _ z _ _) (held_one (decide_eq_false (by omega))) rfl (fun he => by cases he) fun _ a2 w2 h2 => ⟨by simp [AExit.to], rfl, h2⟩
  · refine wpL_end ?_
    show wpL Try.prog _ ([itemN el4 3] ++ []) a2 w2
    refine h2.items (ovB_ok shT _ _) nilC mix (fun c _ => hooksOk_nil c) (fun z => fz_n M u n c p most sw H.length i _ _ _ z _ _) (fun x hx => by cases hx) rfl (fun _ a3 w3 h3 => ⟨rfl, ?_⟩) fun hne => absurd rfl hne
    rw [wrap_next hi (by omega)] at h3
    exact h3

/-- The last test, and the answer. -/
theorem testE (hO : O.h = []) {now : Int} {L : List Bk} (hR : RateI H now L) (hlen : H.length ≤ 60) (hnow : now ≤ 100000000000) {a : Go.Act} {w : World}
    (hat : AtV M O Try.f4.ntmps [6, 7, 8] (sl3 H.length) (hp4 u n c p most sw s (tT H) (tK H) (tP H) x) [] (fun _ _ => False) a w) :
    wpL Try.prog (Done Try.prog M O Try.f4 0 fun v1 o1 n1 _ => v1 = .bool true ∧ o1 = [] ∧ n1 = []) [itemN c4 11, .block 7 (.loop el4), itemN c4 13, itemN c4 14] a w := by
  show wpL Try.prog _ ([itemN c4 11] ++ [.block 7 (.loop el4), itemN c4 13, itemN c4 14]) a w
  refine hat.items (ovB_ok shT _ _) nilC mix (fun c _ => hooksOk_nil c) (fun z => fz_h M u n c p most sw H.length _ _ _ z _ _) (fun x hx => by cases hx) rfl (fun _ a1 w1 h1 => ?_) fun hne => absurd rfl hne
  refine wpL_cons (R := fun a2 w2 => AtV M O Try.f4.ntmps [] [] (hp4 u n c p most sw s (tT H) (tK H) (tP H) x) [] (fun _ _ => False) a2 w2) (wp_block (wp_loop_idx (JE M O u n c p most sw s x H) H.length h1 (fun i a w hi h => roundE hR hlen hnow hi h) fun a w h => ?_)) fun a2 w2 h2 => ?_
  · refine wp_items el4 ?_
    rw [itemsEL4]
    show wpL Try.prog _ ([itemN el4 0, itemN el4 1] ++ [.block 8 eb4, itemN el4 3]) a w
    exact h.items (ovB_ok shT _ _) nilC mix (fun c _ => hooksOk_nil c) (fun z => fz_x M u n c p most sw H.length H.length _ _ _ z _ _) (held_one (by simp)) rfl (fun he => by cases he) fun _ a2 w2 h2 => ⟨by simp [AExit.to], rfl, h2⟩
  · show wpL Try.prog _ ([itemN c4 13, itemN c4 14] ++ []) a2 w2
    refine h2.items (ovB_ok shT _ _) nilC mix (fun c _ => hooksOk_nil c) (fun z => fz_e M u n c p most sw _ _ _ z _ _) (fun x hx => by cases hx) rfl (fun he => by cases he) fun _ a3 w3 h3 => ?_
    obtain ⟨z, h3⟩ := h3
    exact ⟨.inr rfl, _, _, _, .bool true, [], [], h3, by kernel_rfl, rfl, rfl, rfl⟩
end
end Go.Proofs.Ytfkdcpinajnbfaa

