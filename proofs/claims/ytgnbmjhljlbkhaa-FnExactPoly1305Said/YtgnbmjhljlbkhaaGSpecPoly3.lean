/- The specification's Poly1305 as numbers: what its rounds come to.
   Conditions: bytes in range; r below 2^124. -/
import Derived.Test.YtgnbmjhljlbkhaaGSpecStep
set_option linter.unusedVariables false
namespace Go.Num
open Go.Ab

theorem val_digits {V : Int} : ∀ n : Nat, val 256 (fun k => V / 256 ^ k % 256) n = V % 256 ^ n := by
  intro n
  induction n with
  | zero => simp [val]
  | succ n ih =>
    simp only [val]
    rw [ih, Int.pow_succ]
    have hp : (0 : Int) < 256 ^ n := Int.pow_pos (by decide)
    generalize (256 : Int) ^ n = p at *
    have e1 := Int.mul_ediv_add_emod V p
    have e2 := Int.mul_ediv_add_emod (V / p) 256
    have r1 := Int.emod_nonneg V (show p ≠ 0 by omega)
    have r2 := Int.emod_lt_of_pos V hp
    have e : V = (p * 256) * (V / p / 256) + (V % p + V / p % 256 * p) := by
      have : V = p * (256 * (V / p / 256) + V / p % 256) + V % p := by rw [e2, e1]
      grind
    have hr : 0 ≤ V % p + V / p % 256 * p ∧ V % p + V / p % 256 * p < p * 256 := by
      have a : 0 ≤ V / p % 256 ∧ V / p % 256 ≤ 255 := by omega
      have b := Int.mul_nonneg a.1 (Int.le_of_lt hp)
      have c := Int.mul_le_mul_of_nonneg_right a.2 (Int.le_of_lt hp)
      omega
    conv => rhs; rw [e]
    rw [Int.mul_add_emod_self_left, Int.emod_eq_of_lt hr.1 hr.2]

def mS (n i : Nat) : Nat := min 16 (n - 16 * i)
/-- The sum's digits behind i rounds. -/
def accD (r : Nat → Int) (cells : List Value) (f n : Nat) : Nat → (Nat → Int)
  | 0 => fun _ => 0
  | i + 1 => newS (mS n i) (accD r cells f n i) r cells f ((16 * i : Nat) : Int)
def accN (rv : Int) (cells : List Value) (f n : Nat) : Nat → Int
  | 0 => 0
  | i + 1 => (accN rv cells f n i + blkN cells (f + 16 * i) (mS n i)) * rv % P130

theorem byS_eq {cells : List Value} {f i k : Nat} (h : 16 * i + k ≤ 4611686018427387904) : byS cells f ((16 * i : Nat) : Int) k = wd cells (f + 16 * i + k) := by
  unfold byS wd
  rw [wrap_i64 (by omega) (by omega), show f + (((16 * i : Nat) : Int) + k).toNat * 1 = f + 16 * i + k by omega]

theorem sumS_eq {acc : Nat → Int} {cells : List Value} {f i m : Nat} (ha : Dg 256 17 acc) (hm : m ≤ 16) (hi : 16 * i + 16 ≤ 4611686018427387904) (hb : ∀ k, k < m → 0 ≤ wd cells (f + 16 * i + k) ∧ wd cells (f + 16 * i + k) < 256) {k : Nat} (hk : k < 19) :
    sumS m acc cells f ((16 * i : Nat) : Int) k = ext acc 17 k + upd (ext (fun k => wd cells (f + 16 * i + k)) m) m 1 k := by
  simp only [sumS, ext, upd]
  cases h1 : Nat.blt k m with
  | true =>
    have h1' := Nat.blt_eq.mp h1
    have h2 : Nat.beq k m = false := by rw [Bool.eq_false_iff]; exact fun e => by have := Nat.eq_of_beq_eq_true e; omega
    have h3 : Nat.blt k 17 = true := Nat.blt_eq.mpr (by omega)
    have := ha k (by omega); have := hb k h1'
    rw [h2, h3]
    simp only [cond_true, cond_false]
    rw [byS_eq (by omega), wrap_i64 (n := wd cells (f + 16 * i + k)) (by omega) (by omega), wrap_i64 (by omega) (by omega)]
  | false =>
    cases h2 : Nat.beq k m with
    | true =>
      have := Nat.eq_of_beq_eq_true h2
      have h3 : Nat.blt k 17 = true := Nat.blt_eq.mpr (by omega)
      have := ha k (by omega)
      rw [h3]
      simp only [cond_true, cond_false]
      rw [wrap_i64 (by omega) (by omega)]
    | false =>
      simp only [cond_false]
      omega

theorem sumS_range {acc : Nat → Int} {cells : List Value} {f i m : Nat} (ha : Dg 256 17 acc) (hm : m ≤ 16) (hi : 16 * i + 16 ≤ 4611686018427387904) (hb : ∀ k, k < m → 0 ≤ wd cells (f + 16 * i + k) ∧ wd cells (f + 16 * i + k) < 256) {k : Nat} (hk : k < 19) :
    0 ≤ sumS m acc cells f ((16 * i : Nat) : Int) k ∧ sumS m acc cells f ((16 * i : Nat) : Int) k ≤ 512 := by
  rw [sumS_eq ha hm hi hb hk]
  simp only [ext, upd]
  cases h1 : Nat.blt k m with
  | true =>
    have h1' := Nat.blt_eq.mp h1
    have := hb k h1'
    have := ha k (by omega)
    cases Nat.beq k m <;> cases Nat.blt k 17 <;> simp only [cond_true, cond_false] <;> omega
  | false =>
    cases h3 : Nat.blt k 17 with
    | true => have := ha k (Nat.blt_eq.mp h3); cases Nat.beq k m <;> simp only [cond_true, cond_false] <;> omega
    | false => cases Nat.beq k m <;> simp only [cond_true, cond_false] <;> omega

theorem sumS_val {acc : Nat → Int} {cells : List Value} {f i m : Nat} (ha : Dg 256 17 acc) (hm : m ≤ 16) (hi : 16 * i + 16 ≤ 4611686018427387904) (hb : ∀ k, k < m → 0 ≤ wd cells (f + 16 * i + k) ∧ wd cells (f + 16 * i + k) < 256) :
    val 256 (sumS m acc cells f ((16 * i : Nat) : Int)) 19 = val 256 acc 17 + blkN cells (f + 16 * i) m := by
  rw [val_congr fun k hk => sumS_eq ha hm hi hb hk, val_add, val_ext _ (by omega), val_upd (by omega), val_ext _ (by omega)]
  have : ext (fun k => wd cells (f + 16 * i + k)) m m = 0 := by
    have : Nat.blt m m = false := by rw [Bool.eq_false_iff]; exact fun e => by have := Nat.blt_eq.mp e; omega
    simp [ext, this]
  rw [this]
  unfold blkN
  omega

theorem prod_ok {x y : Nat → Int} (hx : ∀ k, k < 19 → 0 ≤ x k ∧ x k ≤ 512) (hy : Dg 256 16 y) :
    (∀ k, 0 ≤ convO IntKind.i64.wrap x y 16 19 k ∧ convO IntKind.i64.wrap x y 16 19 k ≤ 1000000000) ∧ val 256 (convO IntKind.i64.wrap x y 16 19) 40 = val 256 x 19 * val 256 y 16 := by
  have hq : ∀ i j, i < 19 → j < 16 → 0 ≤ x i * y j ∧ x i * y j ≤ 131072 := fun i j hi hj => by
    have a := hx i hi; have b := hy j hj
    have := Int.mul_le_mul a.2 (show y j ≤ 256 by omega) b.1 (by omega)
    exact ⟨Int.mul_nonneg a.1 b.1, by omega⟩
  obtain ⟨h1, h2⟩ := convO_le (w := IntKind.i64.wrap) (M := 19) hq (by omega) (fun a ha hb => wrap_i64 (by omega) (by omega)) (Nat.le_refl 19)
  rw [h1]
  refine ⟨fun k => ?_, convO_val (by omega)⟩
  have := h2 k
  omega

theorem digB_cells {n : Nat} {x : Nat → Int} (h : ∀ i, i < n → 0 ≤ x i ∧ x i ≤ 1000000000) : digB (cellsI .i64 n x) n n = true := digB_iff.2 ⟨cellsI_length _ _ _, Nat.le_refl _, fun i hi => by
  have := h i hi
  rw [wd_cellsI hi]
  refine ⟨by simp [atC, cellsI, hi, isI], this.1, by omega⟩⟩

theorem step_ok {acc r : Nat → Int} {cells : List Value} {f i m : Nat} (ha : Dg 256 17 acc) (hr : Dg 256 16 r) (hm : m ≤ 16) (hi : 16 * i + 16 ≤ 4611686018427387904) (hb : ∀ k, k < m → 0 ≤ wd cells (f + 16 * i + k) ∧ wd cells (f + 16 * i + k) < 256) :
    digB (prodS m acc r cells f ((16 * i : Nat) : Int)) 40 40 = true ∧ val 256 (wd (prodS m acc r cells f ((16 * i : Nat) : Int))) 40 = (val 256 acc 17 + blkN cells (f + 16 * i) m) * val 256 r 16 := by
  have hx : ∀ k, k < 19 → 0 ≤ wd (cellsI .i64 19 (sumS m acc cells f ((16 * i : Nat) : Int))) k ∧ wd (cellsI .i64 19 (sumS m acc cells f ((16 * i : Nat) : Int))) k ≤ 512 := fun k hk => by
    rw [wd_cellsI hk]; exact sumS_range ha hm hi hb hk
  have hy : Dg 256 16 (wd (cellsI .i64 16 r)) := fun k hk => by rw [wd_cellsI hk]; exact hr k hk
  obtain ⟨h1, h2⟩ := prod_ok hx hy
  unfold prodS
  refine ⟨digB_cells fun k _ => h1 k, ?_⟩
  rw [val_congr fun k hk => wd_cellsI hk, h2, val_congr (n := 19) fun k hk => wd_cellsI hk, val_congr (n := 16) fun k hk => wd_cellsI hk, sumS_val ha hm hi hb]

def rBig : Int := 21267647932558653966460912964485513215

theorem new_ok {m : Nat} {acc r : Nat → Int} {cells : List Value} {f : Nat} {at0 : Int} {X : Int} (h : val 256 (wd (prodS m acc r cells f at0)) 40 = X) : Dg 256 17 (newS m acc r cells f at0) ∧ val 256 (newS m acc r cells f at0) 17 = X % P130 := by
  have e : newS m acc r cells f at0 = fun k => X % P130 / 256 ^ k % 256 := funext fun k => by unfold newS; rw [h]
  rw [e, val_digits]
  have e17 : (256 : Int) ^ 17 = 87112285931760246646623899502532662132736 := by decide
  refine ⟨fun k _ => ⟨Int.emod_nonneg _ (by decide), Int.emod_lt_of_pos _ (by decide)⟩, ?_⟩
  rw [e17]
  unfold P130
  omega

theorem accD_ok {r : Nat → Int} {cells : List Value} {s f n c : Nat} (hd : dataB cells s f n c = true) (hr : Dg 256 16 r) (hv : val 256 r 16 ≤ rBig) : ∀ {i : Nat}, 16 * i < n + 16 →
    Dg 256 17 (accD r cells f n i) ∧ val 256 (accD r cells f n i) 17 = accN (val 256 r 16) cells f n i ∧ 0 ≤ accN (val 256 r 16) cells f n i ∧ accN (val 256 r 16) cells f n i < P130 := by
  obtain ⟨_, _, _, hn, hB⟩ := dataB_iff.1 hd
  intro i
  induction i with
  | zero =>
    intro _
    exact ⟨fun k _ => ⟨Int.le_refl 0, by show (0 : Int) < _; decide⟩, val_zero 17, Int.le_refl 0, by show (0 : Int) < _; decide⟩
  | succ i ih =>
    intro hi
    obtain ⟨h1, h2, h3, h4⟩ := ih (by omega)
    have hm : mS n i ≤ 16 := Nat.min_le_left _ _
    have hm2 : mS n i ≤ n - 16 * i := Nat.min_le_right _ _
    have hb : ∀ k, k < mS n i → 0 ≤ wd cells (f + 16 * i + k) ∧ wd cells (f + 16 * i + k) < 256 := fun k hk => by
      have := (hB (16 * i + k) (by omega)).2
      rw [← Nat.add_assoc] at this
      have := has_u8 (hasB_iff.1 this)
      omega
    have hs := step_ok h1 hr hm (i := i) (by omega) hb
    obtain ⟨a, b⟩ := new_ok hs.2
    refine ⟨a, ?_, Int.emod_nonneg _ (by decide), Int.emod_lt_of_pos _ (by decide)⟩
    show val 256 (newS (mS n i) (accD r cells f n i) r cells f ((16 * i : Nat) : Int)) 17 = _
    rw [b, h2]
    rfl

theorem accN_bound {r : Nat → Int} {cells : List Value} {s f n c : Nat} (hd : dataB cells s f n c = true) (hr : Dg 256 16 r) (hv : val 256 r 16 ≤ rBig) {i : Nat} (hi : 16 * i < n) :
    (accN (val 256 r 16) cells f n i + blkN cells (f + 16 * i) (mS n i)) * val 256 r 16 < 57896044618658097711785492504343953926634992332820282019728792003956564819968 := by
  obtain ⟨_, _, h3, h4⟩ := accD_ok hd hr hv (i := i) (by omega)
  have hm2 : mS n i ≤ n - 16 * i := Nat.min_le_right _ _
  have hp := data_piece hd (g := f + 16 * i) (m := mS n i) (by omega) (by omega)
  have hb := blk_range hp (Nat.min_le_left _ _)
  have h0 := (val_range (B := 256) (by decide) hr).1
  have := Int.mul_le_mul (show accN (val 256 r 16) cells f n i + blkN cells (f + 16 * i) (mS n i) ≤ 1361129467683753853853498429727072845819 + 680564733841876926926749214863536422911 by unfold P130 at h4; omega) hv h0 (by omega)
  unfold rBig at this
  omega

theorem accN_full {rv : Int} {cells : List Value} {f n : Nat} : ∀ {i : Nat}, 16 * i ≤ n → accN rv cells f n i = accM rv cells f i := by
  intro i
  induction i with
  | zero => intro _; rfl
  | succ i ih =>
    intro h
    simp only [accN, accM]
    rw [ih (by omega), show mS n i = 16 by unfold mS; omega]

theorem accN_end {rv : Int} {cells : List Value} {f n : Nat} : accN rv cells f n ((n + 15) / 16) = accA rv cells f n := by
  unfold accA
  by_cases h : n % 16 = 0
  · rw [if_pos h, show (n + 15) / 16 = n / 16 by omega, accN_full (by omega)]
  · rw [if_neg h, show (n + 15) / 16 = n / 16 + 1 by omega]
    simp only [accN]
    rw [accN_full (by omega), show mS n (n / 16) = n % 16 by unfold mS; omega]

theorem held_app {p q : Pins} (hp : Held p) (hq : Held q) : Held (p ++ q) := fun x hx => by
  rcases List.mem_append.1 hx with h | h
  · exact hp x h
  · exact hq x h

theorem stepPins_held {acc r : Nat → Int} {cells : List Value} {s f n c i : Nat} (hd : dataB cells s f n c = true) (hi : 16 * i < n) (ha : Dg 256 17 acc) (hr : Dg 256 16 r)
    (hl : (val 256 acc 17 + blkN cells (f + 16 * i) (mS n i)) * val 256 r 16 < 57896044618658097711785492504343953926634992332820282019728792003956564819968) : Held (stepPins cells f s n ((16 * i : Nat) : Int) (mS n i) acc r) := by
  obtain ⟨hlen, hfs, _, hn, hB⟩ := dataB_iff.1 hd
  have hm : mS n i ≤ 16 := Nat.min_le_left _ _
  have hm2 : mS n i ≤ n - 16 * i := Nat.min_le_right _ _
  have hb : ∀ k, k < mS n i → 0 ≤ wd cells (f + 16 * i + k) ∧ wd cells (f + 16 * i + k) < 256 := fun k hk => by
    have := (hB (16 * i + k) (by omega)).2
    rw [← Nat.add_assoc] at this
    have := has_u8 (hasB_iff.1 this)
    omega
  have hs := step_ok ha hr hm (i := i) (by omega) hb
  have key : ∀ m, m ≤ mS n i → Held (byPins cells f s n ((16 * i : Nat) : Int) m) := by
    intro m
    induction m with
    | zero => intro _ x hx; cases hx
    | succ m ih =>
      intro hm'
      have hw : IntKind.i64.wrap (((16 * i : Nat) : Int) + (m : Nat)) = ((16 * i + m : Nat) : Int) := by rw [wrap_i64 (by omega) (by omega)]; omega
      have hat := hB (16 * i + m) (by omega)
      rw [← Nat.add_assoc] at hat
      refine held_app (ih (by omega)) (held_cons ?_ (held_cons (inB_iff.2 ?_) (held_one ?_)))
      · rw [decide_eq_true_eq, hw]; omega
      · rw [hw]; omega
      · rw [hw, show f + ((16 * i + m : Nat) : Int).toNat * 1 = f + 16 * i + m by omega]
        simp only [ldB, hlen, hat.1, decide_true, Bool.and_self]
  have hlast : Held (lastPinS n ((16 * i : Nat) : Int) (mS n i)) := by
    unfold lastPinS
    cases h16 : Nat.beq (mS n i) 16 with
    | true => intro x hx; cases hx
    | false =>
      have : mS n i ≠ 16 := fun e => by rw [e] at h16; cases h16
      have hmn : mS n i = n - 16 * i := by unfold mS at *; omega
      refine held_one ?_
      rw [decide_eq_false_iff_not, wrap_i64 (by omega) (by omega)]
      omega
  unfold stepPins
  refine held_app (held_app (held_cons (by rw [decide_eq_true_eq]; omega) (key _ (Nat.le_refl _))) hlast) (held_cons ?_ (held_cons hs.1 (held_one ?_)))
  · rw [cellB_cells, cellB_cells]
    unfold zeroC
    rw [cellB_cells, Bool.true_and, Bool.true_and, Bool.true_and, List.all_eq_true]
    intro k hk
    rw [List.mem_range] at hk
    rw [decide_eq_true_eq, wd_cellsI hk]
  · rw [decide_eq_true_eq, hs.2]
    exact hl

end Go.Num
