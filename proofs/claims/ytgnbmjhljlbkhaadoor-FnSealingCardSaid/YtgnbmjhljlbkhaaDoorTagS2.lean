/- spec.l2Tag: its contract.
   Conditions: bytes in range. -/
import Derived.Test.YtgnbmjhljlbkhaaDoorTagS
open Go.Ab Go.Num
set_option linter.unusedVariables false
set_option linter.unusedSimpArgs false
namespace Go.Proofs.YtgnbmjhljlbkhaaDoor

theorem app8_cells {l : Nat} {F : Nat → Int} (x : Int) : app8 (cellsI .u8 l F) l x = cellsI .u8 (l + 8) (catF l F (eE x)) := by
  unfold app8
  rw [List.drop_zero, List.take_of_length_le (by rw [cellsI_length]; omega), List.take_of_length_le (by rw [cellsI_length]; omega), cat_cells]

theorem ap8B_ok {l s : Nat} {F : Nat → Int} (hs : s = l * 1) (h : l ≤ 8388608) : ap8B (cellsI .u8 l F) s l = true := by
  subst hs
  simp only [ap8B, room, Bool.and_eq_true, decide_eq_true_eq]
  exact ⟨trivial, trivial, by rw [cellsI_length]; omega, by omega, trivial⟩

/-- The data that the tag is taken of. -/
def dF (X : List Value) (f1 n : Nat) (Y : List Value) (f2 m : Nat) : Nat → Int :=
  catF (padN m + padN n + 8) (catF (padN m + padN n) (catF (padN m) (wd (padC Y f2 m)) (wd (padC X f1 n))) (eE m)) (eE n)

theorem tagD_eq (X : List Value) (f1 n : Nat) (Y : List Value) (f2 m : Nat) : tagD X f1 n Y f2 m = cellsI .u8 (padN m + padN n + 8 + 8) (dF X f1 n Y f2 m) := by
  unfold tagD joinC
  rw [app8_cells, app8_cells]
  rfl

theorem catF_has {a b : Nat} {x y : Nat → Int} (hx : ∀ i, i < a → IntKind.u8.has (x i)) (hy : ∀ i, i < b → IntKind.u8.has (y i)) : ∀ i, i < a + b → IntKind.u8.has (catF a x y i) := fun i hi => by
  unfold catF
  cases hb : Nat.blt i a with
  | true => exact hx i (Nat.blt_eq.mp hb)
  | false =>
    have : ¬ i < a := fun e => by rw [Nat.blt_eq.mpr e] at hb; cases hb
    exact hy (i - a) (by omega)

theorem padC_has {X : List Value} {s f n c : Nat} (hd : dataB X s f n c = true) : ∀ i, i < padN n → IntKind.u8.has (wd (padC X f n) i) := fun i hi => by
  unfold padC
  rw [wd_cellsI hi]
  unfold ext
  cases hb : Nat.blt i n with
  | true => exact hasB_iff.1 ((dataB_iff.1 hd).2.2.2.2 i (Nat.blt_eq.mp hb)).2
  | false => exact ⟨by show (0 : Int) ≤ 0; decide, by show (0 : Int) ≤ 255; decide⟩

theorem eE_has (x : Int) (k : Nat) : IntKind.u8.has (eE x k) := by
  unfold eE
  rw [wrap_u8]
  exact ⟨by show (0 : Int) ≤ _; omega, by show _ ≤ (255 : Int); omega⟩

theorem dF_has {X Y : List Value} {s1 f1 n c s2 f2 m d : Nat} (h1 : dataB X s1 f1 n c = true) (h2 : dataB Y s2 f2 m d = true) : ∀ i, i < padN m + padN n + 8 + 8 → IntKind.u8.has (dF X f1 n Y f2 m i) :=
  catF_has (catF_has (catF_has (padC_has h2) (padC_has h1)) fun i _ => eE_has _ _) fun i _ => eE_has _ _

theorem data_cells {n : Nat} {x : Nat → Int} (hn : n ≤ 4611686018427387904) (h : ∀ i, i < n → IntKind.u8.has (x i)) : dataB (cellsI .u8 n x) n 0 n n = true := dataB_iff.2 ⟨cellsI_length _ _ _, by omega, Nat.le_refl _, hn, fun i hi => by
  rw [Nat.zero_add, wd_cellsI hi]
  exact ⟨by simp [atC, cellsI, hi, isI], hasB_iff.2 (h i hi)⟩⟩

def lenT (n m : Nat) : Nat := padN m + padN n + 8 + 8
def tagV (k nn : Nat → Int) (X : List Value) (f1 n : Nat) (Y : List Value) (f2 m : Nat) : List Value := tagF (wd (cellsI .u8 32 (wd (blk0 k nn)))) (cellsI .u8 (lenT n m) (dF X f1 n Y f2 m)) 0 (lenT n m)

def tagSum (f : FuncId) : Sum :=
  { f := f, ro := true
    S := fun args os => match args, os with
      | [.agg ⟨K⟩, .agg ⟨N⟩, .slice (some ⟨0, f1, some s1⟩) n c, .slice (some ⟨1, f2, some s2⟩) m d], [⟨X, true, 1, true⟩, ⟨Y, true, 1, true⟩] =>
        if isB 32 K && isB 12 N then some (.agg ⟨tagV (wd K) (wd N) X f1 n Y f2 m⟩, [⟨X, true, 1, true⟩, ⟨Y, true, 1, true⟩], []) else none
      | _, _ => none
    C := fun args os => match args, os with
      | [.agg ⟨K⟩, .agg ⟨N⟩, .slice (some ⟨0, f1, some s1⟩) n c, .slice (some ⟨1, f2, some s2⟩) m d], [⟨X, _, _, _⟩, ⟨Y, _, _, _⟩] => [(rngB K, true), (rngB N, true), (dataB X s1 f1 n c && Nat.ble n 1048576, true), (dataB Y s2 f2 m d && Nat.ble m 1048576, true)]
      | _, _ => [] }

theorem blk0_has (k nn : Nat → Int) : rngB (cellsI .u8 32 (wd (blk0 k nn))) = true := by
  unfold rngB
  rw [List.all_eq_true]
  intro v hv
  simp only [cellsI, List.mem_map, List.mem_range] at hv
  obtain ⟨i, hi, rfl⟩ := hv
  have : wd (blk0 k nn) i = byteL (i % 4) (add32 (rF (wd (bStart word (wd (cellsI .u8 32 k)) 0 (wd (cellsI .u8 12 nn)))) (i / 4)) (wd (bStart word (wd (cellsI .u8 32 k)) 0 (wd (cellsI .u8 12 nn))) (i / 4))) := by
    have h64 : i < 64 := by omega
    simp [wd, atC, blk0, blockF, blockW, h64, vint]
  show hasB .u8 (wd (blk0 k nn) i) = true
  rw [this]
  exact hasB_iff.2 (byteL_range _ _)

theorem tag50 (M : Mem) : (tagSum 50).SoundC Tryd.prog M := sumC_sound Tryd.func50 (by kernel_rfl) (by kernel_rfl) fun args os v os' ns hs hp => by
  simp only [tagSum] at hs hp ⊢
  split at hs
  · rename_i K N f1 s1 n c f2 s2 m d X Y
    split at hs
    · rename_i hk
      cases hs
      simp only [Bool.and_eq_true] at hk
      have h1 : rngB K = true := hp (rngB K, true) (List.Mem.head _)
      have h2 : rngB N = true := hp (rngB N, true) (List.Mem.tail _ (List.Mem.head _))
      have h3 : (dataB X s1 f1 n c && Nat.ble n 1048576) = true := hp (_, true) (List.Mem.tail _ (List.Mem.tail _ (List.Mem.head _)))
      have h4 : (dataB Y s2 f2 m d && Nat.ble m 1048576) = true := hp (_, true) (List.Mem.tail _ (List.Mem.tail _ (List.Mem.tail _ (List.Mem.head _))))
      obtain ⟨x1, x2⟩ := Bool.and_eq_true_iff.1 h3
      obtain ⟨y1, y2⟩ := Bool.and_eq_true_iff.1 h4
      have x2 := Nat.le_of_ble_eq_true x2
      have y2 := Nat.le_of_ble_eq_true y2
      have pn : padN n ≤ 1048592 := by unfold padN; omega
      have pm : padN m ≤ 1048592 := by unfold padN; omega
      have eK := isB_eq hk.1
      have eN := isB_eq hk.2
      have hw : ∀ l x, l ≤ 1048592 → wholeB l (cellsI .u8 l x) = true := fun l x h => by unfold wholeB; rw [isB_cells, Bool.true_and]; exact Nat.ble_eq_true_of_le (by omega)
      have := acalls_of_evFU (ovX_ok _ _) (consC (cha10 M) (consC (fill61 M) (consC (join60 M) (consC (eight62 M).c (consC (to48 M) (consC (spolyS M) nilC)))))) mix Tryd.func50 (hooksOk_nil _) (r50 M (wd K) (wd N) f1 s1 n c f2 s2 m d X Y) (by
        refine held_cons (by rw [← eK]; exact h1) (held_cons (by rw [← eN]; exact h2) (held_cons h4 (held_cons h3 (held_cons ?_ (held_cons (ap8B_ok (by omega) (by omega)) (held_cons ?_ (held_cons (blkB_block _ _ _) (held_cons (blk0_has _ _) (held_one ?_)))))))))
        · unfold padC
          rw [hw _ _ pm, hw _ _ pn]
          simp
        · unfold joinC
          rw [app8_cells]
          exact ap8B_ok rfl (by omega)
        · rw [tagD_eq, Nat.mul_one]
          exact data_cells (by omega) (dF_has x1 y1))
      rw [tagD_eq, ← eK, ← eN] at this
      exact ⟨this, fun _ => rfl⟩
    · cases hs
  · cases hs

end Go.Proofs.YtgnbmjhljlbkhaaDoor
