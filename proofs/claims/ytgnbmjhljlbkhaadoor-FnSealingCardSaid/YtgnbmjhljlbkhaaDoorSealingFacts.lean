/- What FnSealing asks for, plain: a sealed box opens to its text; both ways of sealing give one box.
   Conditions: bytes in range. -/
import Derived.Test.YtgnbmjhljlbkhaaDoorSealingLaw
open Go.Ab Go.Num
set_option linter.unusedVariables false
set_option linter.unusedSimpArgs false
namespace Go.Proofs.YtgnbmjhljlbkhaaDoor

theorem sub_eq (k nn : Nat → Int) : keyF (wd (cellsI .u8 32 k)) (wd (cellsI .u8 16 nn)) = xK (cellsI .u8 32 k) (cellsI .u8 24 nn) := by
  rw [← xK0_eq]
  unfold xK0
  rw [show cellsI .u8 16 (wd (cellsI .u8 24 nn)) = cellsI .u8 16 nn from cellsI_congr fun i hi => wd_cellsI (by omega)]
theorem sh_eq (nn : Nat → Int) : cellsI .u8 12 (shF nn) = xN (cellsI .u8 24 nn) := by
  unfold xN
  refine cellsI_congr fun i hi => ?_
  unfold shF xNf
  cases h : Nat.blt i 4 with
  | true => rfl
  | false => rw [cond_false, cond_false, wd_cellsI (by omega)]
theorem cpY_cells {n : Nat} {x : Nat → Int} : cpY n (cellsI .u8 n x) = cellsI .u8 n x := cellsI_congr fun i hi => by rw [Nat.zero_add, wd_cellsI hi]

/-- Hidden twice is as it was. -/
theorem xor_has {a b : Int} (ha : IntKind.u8.has a) (hb : IntKind.u8.has b) : bits .xor .u8 (bits .xor .u8 a b) b = a := by
  obtain ⟨a0, a1⟩ := has_u8 ha
  obtain ⟨b0, b1⟩ := has_u8 hb
  obtain ⟨x, rfl⟩ := Int.eq_ofNat_of_zero_le a0
  obtain ⟨y, rfl⟩ := Int.eq_ofNat_of_zero_le b0
  have e : ∀ u v : Nat, u < 256 → v < 256 → bits .xor .u8 (u : Int) (v : Int) = ((u ^^^ v : Nat) : Int) := fun u v hu hv => by
    have hlt : u ^^^ v < 256 := Nat.xor_lt_two_pow (n := 8) hu hv
    show IntKind.u8.wrap ((BitVec.ofInt 8 (u : Int) ^^^ BitVec.ofInt 8 (v : Int)).toNat : Int) = _
    rw [BitVec.ofInt_natCast, BitVec.ofInt_natCast, BitVec.toNat_xor, BitVec.toNat_ofNat, BitVec.toNat_ofNat, Nat.mod_eq_of_lt (show u < 2 ^ 8 from hu), Nat.mod_eq_of_lt (show v < 2 ^ 8 from hv), wrap_u8]
    omega
  have hlt : x ^^^ y < 256 := Nat.xor_lt_two_pow (n := 8) (by omega) (by omega)
  rw [e x y (by omega) (by omega), e _ y hlt (by omega), Nat.xor_assoc, Nat.xor_self, Nat.xor_zero]

theorem box_lo {K N X Y : List Value} {n m j : Nat} (h : j < n) : boxF K N X 0 n Y 0 m j = strF K N X 0 j := by
  unfold boxF catF
  rw [Nat.blt_eq.mpr h, cond_true]
theorem box_hi {K N X Y : List Value} {n m j : Nat} : boxF K N X 0 n Y 0 m (n + j) = wd (tagV (wd K) (wd N) (hidV K N X 0 n) 0 n Y 0 m) j := by
  unfold boxF catF
  rw [show Nat.blt (n + j) n = false by rw [Bool.eq_false_iff]; exact fun e => by have := Nat.blt_eq.mp e; omega, cond_false, show n + j - n = j by omega]
theorem box_has {K N X Y : List Value} {n m : Nat} : ∀ i, i < n + 16 → IntKind.u8.has (boxF K N X 0 n Y 0 m i) := fun i hi => by
  by_cases h : i < n
  · rw [box_lo h]; exact strF_has _ _ _ _ _
  · obtain ⟨j, rfl⟩ : ∃ j, i = n + j := ⟨i - n, by omega⟩
    rw [box_hi]
    unfold tagV
    exact tagF_has _ _ _ _ (by omega)
theorem box_tag {K N X Y : List Value} {n m : Nat} : tagB K N (cellsI .u8 (n + 16) (boxF K N X 0 n Y 0 m)) 0 (n + 16) Y 0 m = true := by
  have en : n + 16 - 16 = n := by omega
  have h1 : ∀ j, j < 16 → wd (cellsI .u8 (n + 16) (boxF K N X 0 n Y 0 m)) (0 + (n + 16 - 16) + j) = wd (tagV (wd K) (wd N) (hidV K N X 0 n) 0 n Y 0 m) j := fun j hj => by
    rw [en, Nat.zero_add]
    exact (wd_cellsI (by omega)).trans box_hi
  have h2 : tagV (wd K) (wd N) (cellsI .u8 (n + 16) (boxF K N X 0 n Y 0 m)) 0 (n + 16 - 16) Y 0 m = tagV (wd K) (wd N) (hidV K N X 0 n) 0 n Y 0 m := by
    rw [en]
    exact tagV_congr fun i hi => by
      rw [Nat.zero_add]
      exact (wd_cellsI (by omega)).trans ((box_lo hi).trans (wd_cellsI hi).symm)
  exact allEq_iff.2 fun j _ hj => by
    rw [h2]
    exact (h1 j (by omega)).symm
theorem blk_has (k nn : Nat → Int) (c : Int) (i : Nat) : IntKind.u8.has (wd (blockF k c nn) i) := rngB_wd block_range i
/-- What is opened is the text. -/
theorem text_eq {K N : List Value} {Y : List Value} {n m : Nat} {x : Nat → Int} (hx : ∀ i, i < n → IntKind.u8.has (x i)) :
    sl0 (textV K N (cellsI .u8 (n + 16) (boxF K N (cellsI .u8 n x) 0 n Y 0 m)) 0 (n + 16) 16) (n + 16 - 16) = sl0 (cellsI .u8 n x) n := by
  have e1 : sl0 (textV K N (cellsI .u8 (n + 16) (boxF K N (cellsI .u8 n x) 0 n Y 0 m)) 0 (n + 16) 16) (n + 16 - 16) = cellsI .u8 (n + 16 - 16) (ext (strF K N (cellsI .u8 (n + 16) (boxF K N (cellsI .u8 n x) 0 n Y 0 m)) 0) (n + 16 - 16)) := sl0_cells (e := 16)
  have e2 : sl0 (cellsI .u8 n x) n = cellsI .u8 n x := sl0_cells (e := 0)
  rw [e1, e2, show n + 16 - 16 = n by omega]
  refine cellsI_congr fun i hi => ?_
  rw [ext_lt hi]
  have h1 : wd (cellsI .u8 (n + 16) (boxF K N (cellsI .u8 n x) 0 n Y 0 m)) (0 + i) = strF K N (cellsI .u8 n x) 0 i := by
    rw [Nat.zero_add]
    exact (wd_cellsI (by omega)).trans (box_lo hi)
  have h2 : wd (cellsI .u8 n x) (0 + i) = x i := by rw [Nat.zero_add]; exact wd_cellsI hi
  have h3 : strF K N (cellsI .u8 (n + 16) (boxF K N (cellsI .u8 n x) 0 n Y 0 m)) 0 i = bits .xor .u8 (wd (cellsI .u8 (n + 16) (boxF K N (cellsI .u8 n x) 0 n Y 0 m)) (0 + i)) (wd (blockF (wd K) (ctrB (i / 64)) (wd N)) (i % 64)) := rfl
  have h4 : strF K N (cellsI .u8 n x) 0 i = bits .xor .u8 (wd (cellsI .u8 n x) (0 + i)) (wd (blockF (wd K) (ctrB (i / 64)) (wd N)) (i % 64)) := rfl
  rw [h3, h1, h4, h2]
  exact xor_has (hx i hi) (blk_has _ _ _ _)

/-- The first part of what is asked for, but for the draws. -/
theorem pinsS_held {k nn x y : Nat → Int} {N m : Nat} (hk : ∀ i, IntKind.u8.has (k i)) (hn : ∀ i, IntKind.u8.has (nn i)) (hx : ∀ i, IntKind.u8.has (x i)) (hy : ∀ i, IntKind.u8.has (y i)) (hN : N ≤ 65536) (hm : m ≤ 65536) : Held (pinsS k nn x y N m) := by
  have cX := copy_cells (n := N) (x := x) (by omega) fun i _ => hx i
  have cY := copy_cells (n := m) (x := y) (by omega) fun i _ => hy i
  have rK := rngB_cellsI (n := 32) hk
  have rW := rngB_cellsI (n := 24) hn
  have rH := rngB_cellsI (n := 16) hn
  have dX : (dataB (cellsI .u8 N x) N 0 N N && Nat.ble N 65536) = true := by rw [data_cells (by omega) fun i _ => hx i, Nat.ble_eq_true_of_le hN]; rfl
  have dY : (dataB (cellsI .u8 m y) m 0 m m && Nat.ble m 65536) = true := by rw [data_cells (by omega) fun i _ => hy i, Nat.ble_eq_true_of_le hm]; rfl
  have hB := box_has (K := xK (cellsI .u8 32 k) (cellsI .u8 24 nn)) (N := xN (cellsI .u8 24 nn)) (X := cellsI .u8 N x) (Y := cellsI .u8 m y) (n := N) (m := m)
  have cB := copy_cells (n := N + 16) (by omega) hB
  have dB : (dataB (cellsI .u8 (N + 16) (boxF (xK (cellsI .u8 32 k) (cellsI .u8 24 nn)) (xN (cellsI .u8 24 nn)) (cellsI .u8 N x) 0 N (cellsI .u8 m y) 0 m)) (N + 16) 0 (N + 16) (N + 16) && (Nat.ble 16 (N + 16) && Nat.ble (N + 16) 65552)) = true := by
    rw [data_cells (by omega) hB, Nat.ble_eq_true_of_le (by omega), Nat.ble_eq_true_of_le (by omega)]; rfl
  have hs : rngB (xN (cellsI .u8 24 nn)) = true := xN_rng rW
  have cv : ∀ (n : Nat) (F : Nat → Int), (cvY (cellsI .u8 n F) n n).1 = true := fun n F => cvY_ok (e := 0)
  have hl : (((N + 16 : Nat) : Int) != IntKind.i64.wrap ((N : Int) + 16)) = false := by rw [Ab.wrap_i64 (by omega) (by omega)]; simp
  unfold pinsS
  simp only [cpY_cells, sub_eq, sh_eq]
  exact held_cons cX (held_cons cY (held_cons rK (held_cons rW (held_cons dX (held_cons dY (held_cons cB (held_cons cY (held_cons rK (held_cons rW (held_cons dB (held_cons dY (held_cons box_tag (held_cons cvY_ok (held_cons (cv N x) (held_cons (by rw [text_eq fun i _ => hx i]; simp)
    (held_cons hl (held_cons rK (held_cons rH (held_cons cX (held_cons cY (held_cons (xK_rng _ _) (held_cons hs (held_cons dX (held_cons dY (held_cons (cv _ _) (held_cons (cv _ _) (held_one (by simp))))))))))))))))))))))))))))
end Go.Proofs.YtgnbmjhljlbkhaaDoor
