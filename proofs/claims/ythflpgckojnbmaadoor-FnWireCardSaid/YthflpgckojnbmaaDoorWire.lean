/- The law FnWire returns true of whatever bytes the draws come from, which read behind the call as before.
   Conditions: the variable errShape is as the program's text lays it; the card ties it to that text. -/
import Derived.Test.YthflpgckojnbmaaDoorInit
import Derived.Test.YthflpgckojnbmaaDoorAbD
import Derived.Test.YthflpgckojnbmaaDoorTie
import Derived.Test.YthflpgckojnbmaaDoorCards
open Go.Ab Go.Num
set_option linter.unusedVariables false
set_option linter.unusedSimpArgs false
namespace Go.Proofs.YthflpgckojnbmaaDoor

/-- One draw, of 4 foretold. -/
def atV (q k v : Int) : Int := bif decide (k = 4) then q else v
def nAt (M : Mem) (q : Int) : Sum :=
  { f := 20, ro := false
    S := fun args os => match args, (nSumG M 20).S args os with
      | [_, .int .i64 k], some (.int .i64 v, os', ns) => some (.int .i64 (atV q k v), os', ns)
      | _, _ => none
    C := fun args os => match args, (nSumG M 20).S args os with
      | [_, .int .i64 k], some (.int .i64 v, _, _) => (nSumG M 20).C args os ++ [(decide (k = 4 → v = q), true)]
      | _, _ => [] }
theorem nAt_sound (M : Mem) (q : Int) : (nAt M q).SoundC Tryd.prog M := fun args os v os' ns hs hp => by
  simp only [nAt] at hs hp
  split at hs
  · rename_i u k w os1 ns1 hS
    cases hs
    rw [hS] at hp
    simp only at hp
    have h1 := (dN M) [u, .int .i64 k] os (.int .i64 w) _ _ hS (fun x hx => hp x (List.mem_append_left _ hx))
    have h2 := of_decide_eq_true (hp _ (List.mem_append_right _ (List.mem_singleton.2 rfl)))
    have e : atV q k w = w := by
      unfold atV
      by_cases hk : k = 4
      · rw [decide_eq_true hk]; exact (h2 hk).symm
      · rw [decide_eq_false hk]; rfl
    rw [e]
    exact ⟨h1.1, fun h => by cases h⟩
  · cases hs

noncomputable def LW (W : World) (ab ao : Nat) (q : Int) : List Sum := [I14 (memL (tblErr ab ao) W), iniSum Tryd.prog (memL (tblErr ab ao) W) 15, I16 (memL (tblErr ab ao) W), I17 (memL (tblErr ab ao) W), prsSum 12 148 140 1, bytSumG Tryd.prog (memL (tblErr ab ao) W) 18, prsSum 8 64 56 3, I19 (memL (tblErr ab ao) W), nAt (memL (tblErr ab ao) W) q]
theorem LW_sound (W : World) (ab ao : Nat) (q : Int) : ∀ s ∈ LW W ab ao q, s.SoundC Tryd.prog (memL (tblErr ab ao) W) :=
  consC (I14_s _).c (consC (ini15 _) (consC (I16_s _).c (consC (I17_s _).c (consC (prs12 W ab ao) (consC (dB _) (consC (prs8 W ab ao) (consC (I19_s _).c (consC (nAt_sound _ q) nilC))))))))
def symW : List Nat := [23, 41, 62, 83, 118, 121]
def orcW : List Bool := [false, false, false, false, true, true]

/-- The bytes that are written of a number and bytes. -/
def lyF (v : Int) (j : Nat) : Int := bif Nat.beq j 0 then IntKind.u8.wrap (v.fdiv (2 ^ 0)) else bif Nat.beq j 1 then IntKind.u8.wrap (v.fdiv (2 ^ 8)) else bif Nat.beq j 2 then IntKind.u8.wrap (v.fdiv (2 ^ 16)) else IntKind.u8.wrap (v.fdiv (2 ^ 24))
def hdF (k : Int) (f : Nat → Int) (i : Nat) : Int := bif Nat.beq i 0 then k else bif Nat.blt i 4 then 0 else f (i - 4)
def wrF (k : Int) (v : Int) (x : Nat → Int) : Nat → Int := hdF k fun i => bif Nat.blt i 4 then lyF v i else x (i - 4)
/-- One byte changed. -/
def xq (q : Nat) (f : Nat → Int) (d : Int) (i : Nat) : Int := bif Nat.beq i q then bits .xor .u8 (f i) d else f i
def dlt (v : Int) : Int := IntKind.u8.wrap (IntKind.i64.wrap (1 + v))
def prsC (N : Nat) (f : Nat → Int) : Pins := [(decide (N = N ∧ N = N ∧ N = N) && (isB N (cellsI .u8 N f) && rngB (cellsI .u8 N f)), true)]
def w4 (x : Nat → Int) : Int := wordI (x 0) (x 1) (x 2) (x 3)
def same6 (v w : Int) (f g : Nat → Int) : Bool := (v == w) && (allEq f g 0 32 && (allEq f g 32 48 && (allEq f g 80 28 && (allEq f g 108 16 && (allEq f g 124 16 && true)))))
def strP (N : Nat) (f g : Nat → Int) : Pins := [(!((strB (cellsI .u8 N f)).toList == (strB (cellsI .u8 N g)).toList), false)]
section
variable (M : Mem) (u : Option (Nat × Nat)) (n c : Nat)
noncomputable def wA : Int × (Nat → Int) × (Int × Int) := iniR Tryd.prog M 15 u n c false 1 (seedC (lenS u n))
noncomputable def wB : (Nat → Int) × (Int × Int) := bytR Tryd.prog M 18 u n c false 1 (wA M u n c).2.2 144
noncomputable def wC : (Nat → Int) × (Int × Int) := bytR Tryd.prog M 18 u n c false 1 (wB M u n c).2 60
noncomputable def wD (j : Nat) : Int × Int := drawC M (srcA u) (lenS u n) (wC M u n c).2 j
noncomputable def drwP (j : Nat) (k q : Int) : Pins := dPin M (srcA u) (lenS u n) (wD M u n c j) k ++ [(decide (k = 4 → nK k (wD M u n c (j + 1)).1 = q), true)]
noncomputable def pinsW (q : Nat) : Pins :=
  [(decide ((lenS u n : Int) > 1048576), false), (srcOk M (srcA u) (lenS u n) 0, true)] ++ prsC 148 (wrF 1 (wA M u n c).1 (wA M u n c).2.1) ++
  [(!same6 (w4 (lyF (wA M u n c).1)) (wA M u n c).1 (wA M u n c).2.1 (wA M u n c).2.1, false), (srcOk M (srcA u) (lenS u n) (wA M u n c).2.2.2, true), (true, true)] ++
  prsC 148 (hdF 1 (wB M u n c).1) ++ strP 148 (wrF 1 (w4 (wB M u n c).1) fun i => (wB M u n c).1 (i + 4)) (hdF 1 (wB M u n c).1) ++
  [(srcOk M (srcA u) (lenS u n) (wB M u n c).2.2, true), (true, true)] ++ prsC 64 (hdF 3 (wC M u n c).1) ++ strP 64 (wrF 3 (w4 (wC M u n c).1) fun i => (wC M u n c).1 (i + 4)) (hdF 3 (wC M u n c).1) ++
  drwP M u n c 0 4 q ++ drwP M u n c 1 255 q ++ drwP M u n c 2 255 q ++
  prsC 148 (xq q (hdF 1 (wB M u n c).1) (dlt (nK 255 (wD M u n c 2).1))) ++ prsC 64 (xq q (hdF 3 (wC M u n c).1) (dlt (nK 255 (wD M u n c 3).1))) ++
  [(!headR 1 (xq q (hdF 1 (wB M u n c).1) (dlt (nK 255 (wD M u n c 2).1))), true), (!headR 3 (xq q (hdF 3 (wC M u n c).1) (dlt (nK 255 (wD M u n c 3).1))), true)]
end

set_option maxRecDepth 100000 in
theorem r5s0 (W : World) (ab ao b off n c : Nat) : evFC Tryd.prog (memL (tblErr ab ao) W) (LW W ab ao 0) symW 1000 Tryd.f5 [.slice (some ⟨b, off, none⟩) n c] [] orcW
   = some ((.bool true, [], []), pinsW (memL (tblErr ab ao) W) (some (b, off)) n c 0) := parts_eq (by kernel_rfl) (by kernel_rfl) (by kernel_rfl) (by kernel_rfl) (by kernel_rfl)
set_option maxRecDepth 100000 in
theorem r5s1 (W : World) (ab ao b off n c : Nat) : evFC Tryd.prog (memL (tblErr ab ao) W) (LW W ab ao 1) symW 1000 Tryd.f5 [.slice (some ⟨b, off, none⟩) n c] [] orcW
   = some ((.bool true, [], []), pinsW (memL (tblErr ab ao) W) (some (b, off)) n c 1) := parts_eq (by kernel_rfl) (by kernel_rfl) (by kernel_rfl) (by kernel_rfl) (by kernel_rfl)
set_option maxRecDepth 100000 in
theorem r5s2 (W : World) (ab ao b off n c : Nat) : evFC Tryd.prog (memL (tblErr ab ao) W) (LW W ab ao 2) symW 1000 Tryd.f5 [.slice (some ⟨b, off, none⟩) n c] [] orcW
   = some ((.bool true, [], []), pinsW (memL (tblErr ab ao) W) (some (b, off)) n c 2) := parts_eq (by kernel_rfl) (by kernel_rfl) (by kernel_rfl) (by kernel_rfl) (by kernel_rfl)
set_option maxRecDepth 100000 in
theorem r5s3 (W : World) (ab ao b off n c : Nat) : evFC Tryd.prog (memL (tblErr ab ao) W) (LW W ab ao 3) symW 1000 Tryd.f5 [.slice (some ⟨b, off, none⟩) n c] [] orcW
   = some ((.bool true, [], []), pinsW (memL (tblErr ab ao) W) (some (b, off)) n c 3) := parts_eq (by kernel_rfl) (by kernel_rfl) (by kernel_rfl) (by kernel_rfl) (by kernel_rfl)
set_option maxRecDepth 100000 in
theorem r5z0 (W : World) (ab ao : Nat) : evFC Tryd.prog (memL (tblErr ab ao) W) (LW W ab ao 0) symW 1000 Tryd.f5 [.slice none 0 0] [] orcW
   = some ((.bool true, [], []), pinsW (memL (tblErr ab ao) W) none 0 0 0) := parts_eq (by kernel_rfl) (by kernel_rfl) (by kernel_rfl) (by kernel_rfl) (by kernel_rfl)
set_option maxRecDepth 100000 in
theorem r5z1 (W : World) (ab ao : Nat) : evFC Tryd.prog (memL (tblErr ab ao) W) (LW W ab ao 1) symW 1000 Tryd.f5 [.slice none 0 0] [] orcW
   = some ((.bool true, [], []), pinsW (memL (tblErr ab ao) W) none 0 0 1) := parts_eq (by kernel_rfl) (by kernel_rfl) (by kernel_rfl) (by kernel_rfl) (by kernel_rfl)
set_option maxRecDepth 100000 in
theorem r5z2 (W : World) (ab ao : Nat) : evFC Tryd.prog (memL (tblErr ab ao) W) (LW W ab ao 2) symW 1000 Tryd.f5 [.slice none 0 0] [] orcW
   = some ((.bool true, [], []), pinsW (memL (tblErr ab ao) W) none 0 0 2) := parts_eq (by kernel_rfl) (by kernel_rfl) (by kernel_rfl) (by kernel_rfl) (by kernel_rfl)
set_option maxRecDepth 100000 in
theorem r5z3 (W : World) (ab ao : Nat) : evFC Tryd.prog (memL (tblErr ab ao) W) (LW W ab ao 3) symW 1000 Tryd.f5 [.slice none 0 0] [] orcW
   = some ((.bool true, [], []), pinsW (memL (tblErr ab ao) W) none 0 0 3) := parts_eq (by kernel_rfl) (by kernel_rfl) (by kernel_rfl) (by kernel_rfl) (by kernel_rfl)
set_option maxRecDepth 100000 in
theorem r5l (W : World) (ab ao b off n c : Nat) : evFC Tryd.prog (memL (tblErr ab ao) W) (LW W ab ao 0) symW 1000 Tryd.f5 [.slice (some ⟨b, off, none⟩) n c] [] [true]
   = some ((.bool true, [], []), [(decide ((n : Int) > 1048576), true)]) := by kernel_rfl

/-! ### What is asked for holds -/
theorem isr {N : Nat} {f : Nat → Int} (h : ∀ i, IntKind.u8.has (f i)) : Held (prsC N f) :=
  held_one (by rw [isB_cells, rngB_cellsI h]; simp)
theorem lyF_has (v : Int) (j : Nat) : IntKind.u8.has (lyF v j) := by
  unfold lyF
  cases Nat.beq j 0 with
  | true => exact u8_wrap _
  | false => cases Nat.beq j 1 with
    | true => exact u8_wrap _
    | false => cases Nat.beq j 2 with
      | true => exact u8_wrap _
      | false => exact u8_wrap _
theorem hdF_has {k : Int} (hk : IntKind.u8.has k) {f : Nat → Int} (h : ∀ i, IntKind.u8.has (f i)) (i : Nat) : IntKind.u8.has (hdF k f i) := by
  unfold hdF
  cases Nat.beq i 0 with
  | true => exact hk
  | false => cases Nat.blt i 4 with
    | true => show (0 : Int) ≤ 0 ∧ (0 : Int) ≤ 255; decide
    | false => exact h _
theorem wrF_has {k : Int} (hk : IntKind.u8.has k) (v : Int) {x : Nat → Int} (h : ∀ i, IntKind.u8.has (x i)) (i : Nat) : IntKind.u8.has (wrF k v x i) := hdF_has hk (fun i => by
  cases Nat.blt i 4 with
  | true => exact lyF_has v i
  | false => exact h _) i
theorem bits_has (a d : Int) : IntKind.u8.has (bits .xor .u8 a d) := by unfold bits; exact u8_wrap _
theorem xq_has {q : Nat} {f : Nat → Int} {d : Int} (h : ∀ i, IntKind.u8.has (f i)) (i : Nat) : IntKind.u8.has (xq q f d i) := by
  unfold xq
  cases Nat.beq i q with
  | true => exact bits_has _ _
  | false => exact h i

theorem w4_eq {x : Nat → Int} (h : ∀ i, IntKind.u8.has (x i)) : w4 x = word (x 0) (x 1) (x 2) (x 3) := wordI_eq (h 0) (h 1) (h 2) (h 3)
theorem ly_w4 {x : Nat → Int} (h : ∀ i, IntKind.u8.has (x i)) : ∀ i, i < 4 → lyF (w4 x) i = x i := fun i hi => by
  rw [w4_eq h]
  have b : ∀ j, 0 ≤ x j ∧ x j ≤ 255 := fun j => has_u8 (h j)
  have b0 := b 0; have b1 := b 1; have b2 := b 2; have b3 := b 3
  match i, hi with
  | 0, _ => simp only [lyF, word, Nat.beq, cond_true, wrap_u8]; rw [Int.fdiv_eq_ediv_of_nonneg _ (by decide)]; omega
  | 1, _ => simp only [lyF, word, Nat.beq, cond_true, cond_false, wrap_u8]; rw [Int.fdiv_eq_ediv_of_nonneg _ (by decide)]; omega
  | 2, _ => simp only [lyF, word, Nat.beq, cond_true, cond_false, wrap_u8]; rw [Int.fdiv_eq_ediv_of_nonneg _ (by decide)]; omega
  | 3, _ => simp only [lyF, word, Nat.beq, cond_false, wrap_u8]; rw [Int.fdiv_eq_ediv_of_nonneg _ (by decide)]; omega
theorem w4_ly {v : Int} (h : IntKind.u32.has v) : w4 (lyF v) = v := by
  rw [w4_eq (lyF_has v)]
  obtain ⟨h1, h2⟩ := has_u32 h
  simp only [lyF, word, Nat.beq, cond_true, cond_false, wrap_u8]
  rw [Int.fdiv_eq_ediv_of_nonneg _ (by decide), Int.fdiv_eq_ediv_of_nonneg _ (by decide), Int.fdiv_eq_ediv_of_nonneg _ (by decide), Int.fdiv_eq_ediv_of_nonneg _ (by decide)]
  omega
theorem wr_hd {k : Int} {y : Nat → Int} (h : ∀ i, IntKind.u8.has (y i)) : wrF k (w4 y) (fun i => y (i + 4)) = hdF k y := by
  unfold wrF
  congr 1
  funext i
  by_cases hi : i < 4
  · rw [Nat.blt_eq.mpr hi, cond_true]; exact ly_w4 h i hi
  · have hb : Nat.blt i 4 = false := by rw [Bool.eq_false_iff]; exact fun e => hi (Nat.blt_eq.mp e)
    rw [hb, cond_false]
    show y (i - 4 + 4) = y i
    rw [show i - 4 + 4 = i by omega]
theorem strP_held {N : Nat} {f g : Nat → Int} (h : f = g) : Held (strP N f g) := held_one (by rw [h]; simp)
theorem allEq_self {f : Nat → Int} {a m : Nat} : allEq f f a m = true := allEq_iff.2 fun _ _ _ => rfl
theorem same6_self {v w : Int} (h : v = w) (f : Nat → Int) : (!same6 v w f f) = false := by
  unfold same6
  rw [h]
  simp [allEq_self]

/-- A byte that is changed is another. -/
theorem xor_ne : ∀ d : Fin 256, d.val ≠ 0 → bits .xor .u8 0 d.val ≠ 0 ∧ bits .xor .u8 1 d.val ≠ 1 ∧ bits .xor .u8 3 d.val ≠ 3 := by decide +kernel
theorem dlt_range {v : Int} (h0 : 0 ≤ v) (h1 : v < 255) : 1 ≤ dlt v ∧ dlt v ≤ 255 := by
  unfold dlt
  rw [wrap_i64 (by omega) (by omega), wrap_u8]
  omega
theorem xor_nb {d : Int} (h1 : 1 ≤ d) (h2 : d ≤ 255) : (bits .xor .u8 0 d == 0) = false ∧ (bits .xor .u8 1 d == 1) = false ∧ (bits .xor .u8 3 d == 3) = false := by
  obtain ⟨n, rfl⟩ := Int.eq_ofNat_of_zero_le (show 0 ≤ d by omega)
  have := xor_ne ⟨n, by omega⟩ (by simp only; omega)
  simp only [beq_eq_false_iff_ne]
  exact this
theorem head_bad {q : Nat} (hq : q < 4) {y : Nat → Int} {d : Int} (h1 : 1 ≤ d) (h2 : d ≤ 255) : (!headR 1 (xq q (hdF 1 y) d)) = true ∧ (!headR 3 (xq q (hdF 3 y) d)) = true := by
  obtain ⟨x0, x1, x3⟩ := xor_nb h1 h2
  match q, hq with
  | 0, _ => simp only [headR, xq, hdF, Nat.beq, Nat.blt, Nat.ble, cond_true, cond_false, x1, x3, Bool.false_and, Bool.not_false, and_self]
  | 1, _ => simp only [headR, xq, hdF, Nat.beq, Nat.blt, Nat.ble, cond_true, cond_false, x0, Bool.false_and, Bool.and_false, Bool.not_false, and_self]
  | 2, _ => simp only [headR, xq, hdF, Nat.beq, Nat.blt, Nat.ble, cond_true, cond_false, x0, Bool.false_and, Bool.and_false, Bool.not_false, and_self]
  | 3, _ => simp only [headR, xq, hdF, Nat.beq, Nat.blt, Nat.ble, cond_true, cond_false, x0, Bool.false_and, Bool.and_false, Bool.not_false, and_self]

theorem pinsW_held {M : Mem} {u : Option (Nat × Nat)} {n c : Nat} (hn : lenS u n ≤ 1048576) (h : srcOk M (srcA u) (lenS u n) 0 = true) :
    (0 ≤ nK 4 (wD M u n c 1).1 ∧ nK 4 (wD M u n c 1).1 < 4) ∧ ∀ q : Nat, q < 4 → nK 4 (wD M u n c 1).1 = q → Held (pinsW M u n c q) := by
  obtain ⟨h1, h2, h3⟩ := srcOk_iff.1 h
  have hs : ∀ q : Int, 0 ≤ q → srcOk M (srcA u) (lenS u n) q = true := fun q hq => srcOk_iff.2 ⟨h1, h2, hq⟩
  obtain ⟨a1, a2, a3, _⟩ := iniR_ok (ini_x M) (u := u) (n := n) (c := c) (g := false) (e := 1) (p := seedC (lenS u n)) h
  obtain ⟨b1, b2, _⟩ := bytR_ok (dB_x M) (u := u) (n := n) (c := c) (g := false) (e := 1) (p := (wA M u n c).2.2) (k := 144) (hs _ a3) (by decide)
  obtain ⟨c1, c2, _⟩ := bytR_ok (dB_x M) (u := u) (n := n) (c := c) (g := false) (e := 1) (p := (wB M u n c).2) (k := 60) (hs _ b2) (by decide)
  have hD : ∀ j, 0 ≤ (wD M u n c j).2 := fun j => drawC_ok h2 c2 j
  have hX : ∀ j, 0 ≤ (wD M u n c (j + 1)).1 := fun j => drawC_x j
  refine ⟨nK_range (hX 0) (by decide) (by decide), fun q hq e => ?_⟩
  obtain ⟨d1, d2⟩ := dlt_range (nK_range (k := 255) (hX 1) (by decide) (by decide)).1 (nK_range (k := 255) (hX 1) (by decide) (by decide)).2
  obtain ⟨e1, e2⟩ := dlt_range (nK_range (k := 255) (hX 2) (by decide) (by decide)).1 (nK_range (k := 255) (hX 2) (by decide) (by decide)).2
  have k1 : IntKind.u8.has 1 := ⟨by decide, by decide⟩
  have k3 : IntKind.u8.has 3 := ⟨by decide, by decide⟩
  have n4 : ∀ v w : Int, decide ((255 : Int) = 4 → v = w) = true := fun v w => decide_eq_true fun h => absurd h (by decide)
  unfold pinsW
  exact held_two (held_two (held_two (held_two (held_two (held_two (held_two (held_two (held_two (held_two (held_two (held_two (held_two
    (held_cons (by rw [decide_eq_false_iff_not]; omega) (held_one h)) (isr (wrF_has k1 _ a2)))
    (held_cons (same6_self (w4_ly a1) _) (held_cons (hs _ a3) (held_one rfl)))) (isr (hdF_has k1 b1))) (strP_held (wr_hd b1))) (held_cons (hs _ b2) (held_one rfl)))
    (isr (hdF_has k3 c1))) (strP_held (wr_hd c1)))
    (held_two (dPin_held h1 (hD 0) (by decide)) (held_one (decide_eq_true fun _ => e)))) (held_two (dPin_held h1 (hD 1) (by decide)) (held_one (n4 _ _)))) (held_two (dPin_held h1 (hD 2) (by decide)) (held_one (n4 _ _))))
    (isr (xq_has (hdF_has k1 b1)))) (isr (xq_has (hdF_has k3 c1)))) (held_cons (head_bad hq d1 d2).1 (held_one (head_bad hq e1 e2).2))

theorem nOk_roS {M : Mem} {b off n : Nat} (h : RoS M b off n) : nOk M (some ⟨b, off, none⟩) n = true := by
  simp only [nOk, Option.isNone_none, Bool.true_and, List.all_eq_true]
  intro j hj
  exact (h j (List.mem_range.1 hj)).1
set_option maxRecDepth 100000 in
theorem run5 (W : World) (base : Nat) (hL : laidMetH Tryd.prog laidErr W) (v0 : Value) (h0 : Value.okWide Tryd.prog W .any base 22 v0) {H : Type} {enc : TypeId × Value → H} {d : DataW H} {p : List MemPlace} (t0 : DataW.Trod enc Tryd.prog W 0 (fun _ => true) true 22 v0 d p) :
    groundL [v0] = true ∧ ∃ M ns, RoOk M W ∧ ACalls Tryd.prog M 5 [v0] [] (.bool true) [] ns := by
  obtain ⟨ab, ao, hr⟩ := ro_err hL
  have ok : RoOk (memL (tblErr ab ao) W) W := ro_memL hr
  rcases arg22 hr h0 t0 with rfl | ⟨b, off, n, c, rfl, x1⟩
  · refine ⟨rfl, memL (tblErr ab ao) W, [], ok, ?_⟩
    obtain ⟨⟨q0, q1⟩, hp⟩ := pinsW_held (M := memL (tblErr ab ao) W) (u := none) (n := 0) (c := 0) (by decide) (srcOk_iff.2 ⟨by simp [nOk, srcA, lenS], by decide, by decide⟩)
    rcases (show nK 4 (wD (memL (tblErr ab ao) W) none 0 0 1).1 = (0 : Nat) ∨ nK 4 (wD (memL (tblErr ab ao) W) none 0 0 1).1 = (1 : Nat) ∨ nK 4 (wD (memL (tblErr ab ao) W) none 0 0 1).1 = (2 : Nat) ∨ nK 4 (wD (memL (tblErr ab ao) W) none 0 0 1).1 = (3 : Nat) by omega) with e | e | e | e
    · exact acalls_of_evFC (LW_sound _ _ _ _) mix Tryd.func5 (r5z0 W ab ao) (hp 0 (by decide) e)
    · exact acalls_of_evFC (LW_sound _ _ _ _) mix Tryd.func5 (r5z1 W ab ao) (hp 1 (by decide) e)
    · exact acalls_of_evFC (LW_sound _ _ _ _) mix Tryd.func5 (r5z2 W ab ao) (hp 2 (by decide) e)
    · exact acalls_of_evFC (LW_sound _ _ _ _) mix Tryd.func5 (r5z3 W ab ao) (hp 3 (by decide) e)
  · refine ⟨rfl, memL (tblErr ab ao) W, [], ok, ?_⟩
    by_cases hb : n ≤ 1048576
    · obtain ⟨⟨q0, q1⟩, hp⟩ := pinsW_held (M := memL (tblErr ab ao) W) (u := some (b, off)) (n := n) (c := c) hb (srcOk_iff.2 ⟨nOk_roS x1, hb, by decide⟩)
      rcases (show nK 4 (wD (memL (tblErr ab ao) W) (some (b, off)) n c 1).1 = (0 : Nat) ∨ nK 4 (wD (memL (tblErr ab ao) W) (some (b, off)) n c 1).1 = (1 : Nat) ∨ nK 4 (wD (memL (tblErr ab ao) W) (some (b, off)) n c 1).1 = (2 : Nat) ∨ nK 4 (wD (memL (tblErr ab ao) W) (some (b, off)) n c 1).1 = (3 : Nat) by omega) with e | e | e | e
      · exact acalls_of_evFC (LW_sound _ _ _ _) mix Tryd.func5 (r5s0 W ab ao b off n c) (hp 0 (by decide) e)
      · exact acalls_of_evFC (LW_sound _ _ _ _) mix Tryd.func5 (r5s1 W ab ao b off n c) (hp 1 (by decide) e)
      · exact acalls_of_evFC (LW_sound _ _ _ _) mix Tryd.func5 (r5s2 W ab ao b off n c) (hp 2 (by decide) e)
      · exact acalls_of_evFC (LW_sound _ _ _ _) mix Tryd.func5 (r5s3 W ab ao b off n c) (hp 3 (by decide) e)
    · exact acalls_of_evFC (LW_sound _ _ _ 0) mix Tryd.func5 (r5l W ab ao b off n c) (held_one (by rw [decide_eq_true_eq]; omega))
set_option maxRecDepth 100000 in
theorem FnWire_lifted (os : Os) (started : os.Started) (H : Type) (enc : TypeId × Value → H) :
    ReturnsInHanded {} Tryd.checked os 5 .any (fun w args => (Rows.fnWireSpec.pre enc Tryd.prog Tryd.f5 [] false w args ∧ laidMetH Tryd.prog laidErr w) ∧ sizedMet enc Tryd.prog Tryd.f5 (OpenSpec.ofChange Rows.fnWireSpec) false w args)
      (Rows.fnWireSpec.post enc Tryd.prog Tryd.f5 false true false false) :=
  liftedL own (by kernel_rfl) Tryd.func5 (tb := 4) (by kernel_rfl) Tryd.underlying4 (by kernel_rfl) (by kernel_rfl) (laid := laidErr) (fun H ds gs h h2 => by
      obtain ⟨_, rfl⟩ := len1 (l := ds) (h.trans (by kernel_rfl)); obtain ⟨_, rfl⟩ := len1 (l := gs) (h2.trans (by kernel_rfl)); rfl)
    (fun W base H enc args ds ps hL h hv => by
      rw [show Tryd.f5.params = _ from Tryd.params5] at h hv
      obtain ⟨v0, d0, rfl, rfl, h0⟩ := Go.ChangeShapes.trodAll_one h
      exact run5 W base hL v0 (hv 0 _ v0 rfl rfl) h0) os started enc
    (ChangeSpec.witness_shaped (enc := enc) (C := Tryd.checked) (os := os) (X := fun w _ => laidMetH Tryd.prog laidErr w) false (World.doorLaid Tryd.prog 400 os) #[(.slice none 0 0)] 64 rfl (World.shaped_of_RefB (by kernel_rfl) (by kernel_rfl)) (by kernel_rfl) (by kernel_rfl) (by kernel_rfl) (door_met os _))

set_option maxRecDepth 100000 in
theorem FnWire_row : Rows.FnWireSaid :=
  OpenClaim.holds_of_wide 5 Tryd.f5 rfl rfl rfl rfl rfl rfl rfl ⟨rfl, rfl, rfl, rfl, rfl⟩ rfl rfl rfl rfl rfl (by kernel_rfl) Tryd.func5 (by kernel_rfl)
    (of_decide_eq_true (by kernel_rfl)) (by unfold Func.isWrapper; first | (rw [if_pos (by decide +kernel)]; kernel_rfl) | (rw [if_neg (by decide +kernel)]; exact ⟨rfl, rfl⟩))
    (fun os started H enc _ => FnWire_lifted os started H enc)

set_option maxRecDepth 100000 in
/-- The statement: the row with its variables tied to the program's text. -/
theorem FnWire_holds : Rows.FnWireCardSaid :=
  Claim7.holds_tied_plain_at .later [] [.sentinel] true (true, "1a856eb2d090c9dd47b13963a07a1c7e1fd0e2b202da5bd8932b0fe831152f7b") true
    FnWire_row (fun _ h => by cases h) (by kernel_rfl) (fun _ h => by cases h) fnWire_row_tie rfl ⟨rfl, rfl⟩ (by kernel_rfl) rfl
    (fun f fn hf hfn => by
      obtain rfl : f = 5 := Option.some.inj ((show Tryd.prog.funcNamed "loop.example/s02974/laws.FnWire" = some 5 by kernel_rfl).symm.trans hf) |>.symm
      obtain rfl : fn = Tryd.f5 := (Option.some.inj (Tryd.func5.symm.trans hfn)).symm
      exact ⟨by kernel_rfl, fun j t ht => by
        rw [Tryd.params5] at ht
        have hm : t ∈ [22] := by simpa using Array.mem_of_getElem? ht
        have hall : ([22].all fun u => !Tryd.prog.wantsStandIn u) = true := by kernel_rfl
        exact (show Tryd.prog.wantsStandIn t = false by simpa using List.all_eq_true.1 hall t hm)⟩)
    (by kernel_rfl)

end Go.Proofs.YthflpgckojnbmaaDoor
