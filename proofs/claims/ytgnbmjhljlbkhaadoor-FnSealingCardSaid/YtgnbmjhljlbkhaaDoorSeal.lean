/- Seal, the specification's and the program's: contracts.
   Conditions: bytes in range. -/
import Derived.Test.YtgnbmjhljlbkhaaDoorGA
import Derived.Test.YtgnbmjhljlbkhaaDoorTagI
open Go.Ab Go.Num
set_option linter.unusedVariables false
set_option linter.unusedSimpArgs false
namespace Go.Proofs.YtgnbmjhljlbkhaaDoor

theorem padC_congr {X X' : List Value} {f f' n : Nat} (h : ∀ i, i < n → wd X (f + i) = wd X' (f' + i)) : padC X f n = padC X' f' n := cellsI_congr fun i hi => by
  unfold ext datF
  cases hb : Nat.blt i n with
  | true => exact h i (Nat.blt_eq.mp hb)
  | false => rfl
theorem tagV_congr {k nn : Nat → Int} {X X' : List Value} {f1 f1' n : Nat} {Y : List Value} {f2 m : Nat} (h : ∀ i, i < n → wd X (f1 + i) = wd X' (f1' + i)) : tagV k nn X f1 n Y f2 m = tagV k nn X' f1' n Y f2 m := by
  unfold tagV dF
  rw [padC_congr h]

/-- What is hidden, and the tag of it. -/
def hidV (K N X : List Value) (f1 n : Nat) : List Value := cellsI .u8 n (strF K N X f1)
def boxF (K N X : List Value) (f1 n : Nat) (Y : List Value) (f2 m : Nat) : Nat → Int := catF n (strF K N X f1) (wd (tagV (wd K) (wd N) (hidV K N X f1 n) 0 n Y f2 m))

def sealSum (f : FuncId) : Sum :=
  { f := f, ro := true
    S := fun args os => match args, os with
      | [.agg ⟨K⟩, .agg ⟨N⟩, .slice (some ⟨0, f1, some s1⟩) n c, .slice (some ⟨1, f2, some s2⟩) m d], [⟨X, true, 1, true⟩, ⟨Y, true, 1, true⟩] =>
        if isB 32 K && isB 12 N then some (.slice (some ⟨2, 0, some (n + 16)⟩) (n + 16) (n + 16), [⟨X, true, 1, true⟩, ⟨Y, true, 1, true⟩], [⟨cellsI .u8 (n + 16) (boxF K N X f1 n Y f2 m), true, 1, true⟩]) else none
      | _, _ => none
    C := fun args os => match args, os with
      | [.agg ⟨K⟩, .agg ⟨N⟩, .slice (some ⟨0, f1, some s1⟩) n c, .slice (some ⟨1, f2, some s2⟩) m d], [⟨X, _, _, _⟩, ⟨Y, _, _, _⟩] => [(rngB K, true), (rngB N, true), (dataB X s1 f1 n c && Nat.ble n 65536, true), (dataB Y s2 f2 m d && Nat.ble m 65536, true)]
      | _, _ => [] }
/-- Too long. -/
def noSealSum (f : FuncId) : Sum :=
  { f := f, ro := true
    S := fun args os => match args, os with
      | [.agg ⟨K⟩, .agg ⟨N⟩, .slice (some ⟨0, f1, some s1⟩) n c, .slice (some ⟨1, f2, some s2⟩) m d], [⟨X, true, 1, true⟩, ⟨Y, true, 1, true⟩] =>
        if isB 32 K && isB 12 N then some (.slice none 0 0, [⟨X, true, 1, true⟩, ⟨Y, true, 1, true⟩], []) else none
      | _, _ => none
    C := fun args os => match args, os with
      | [.agg ⟨K⟩, .agg ⟨N⟩, .slice (some ⟨0, f1, some s1⟩) n c, .slice (some ⟨1, f2, some s2⟩) m d], _ => [(Nat.blt 65536 n || Nat.blt 65536 m, true)]
      | _, _ => [] }

theorem sealSum_sound {M : Mem} {f : FuncId} {fn : Func} (hf : Tryd.prog.funcs[f]? = some fn) (hn : (fn.name == "runtime.NumGoroutine") = false) (hb : fn.body.isSome = true)
    (h : ∀ (k nn : Nat → Int) (f1 s1 n c f2 s2 m d : Nat) (X Y : List Value), rngB (cellsI .u8 32 k) = true → rngB (cellsI .u8 12 nn) = true → dataB X s1 f1 n c = true → n ≤ 65536 → dataB Y s2 f2 m d = true → m ≤ 65536 →
      ACalls Tryd.prog M f [.agg ⟨cellsI .u8 32 k⟩, .agg ⟨cellsI .u8 12 nn⟩, .slice (some ⟨0, f1, some s1⟩) n c, .slice (some ⟨1, f2, some s2⟩) m d] [⟨X, true, 1, true⟩, ⟨Y, true, 1, true⟩]
        (.slice (some ⟨2, 0, some (n + 16)⟩) (n + 16) (n + 16)) [⟨X, true, 1, true⟩, ⟨Y, true, 1, true⟩] [⟨cellsI .u8 (n + 16) (boxF (cellsI .u8 32 k) (cellsI .u8 12 nn) X f1 n Y f2 m), true, 1, true⟩]) : (sealSum f).SoundC Tryd.prog M := by
  refine sumC_sound hf hn hb fun args os v os' ns hs hp => ?_
  simp only [sealSum] at hs hp ⊢
  split at hs
  · rename_i K N f1 s1 n c f2 s2 m d X Y
    split at hs
    · rename_i hk
      cases hs
      simp only [Bool.and_eq_true] at hk
      have h1 : rngB K = true := hp (rngB K, true) (List.Mem.head _)
      have h2 : rngB N = true := hp (rngB N, true) (List.Mem.tail _ (List.Mem.head _))
      have h3 := hp (_, true) (List.Mem.tail _ (List.Mem.tail _ (List.Mem.head _)))
      have h4 := hp (_, true) (List.Mem.tail _ (List.Mem.tail _ (List.Mem.tail _ (List.Mem.head _))))
      obtain ⟨x1, x2⟩ := Bool.and_eq_true_iff.1 h3
      obtain ⟨y1, y2⟩ := Bool.and_eq_true_iff.1 h4
      have eK := isB_eq hk.1
      have eN := isB_eq hk.2
      have := h (wd K) (wd N) f1 s1 n c f2 s2 m d X Y (by rw [← eK]; exact h1) (by rw [← eN]; exact h2) x1 (Nat.le_of_ble_eq_true x2) y1 (Nat.le_of_ble_eq_true y2)
      rw [← eK, ← eN] at this
      exact ⟨this, fun _ => rfl⟩
    · cases hs
  · cases hs

theorem noSealSum_sound {M : Mem} {f : FuncId} {fn : Func} (hf : Tryd.prog.funcs[f]? = some fn) (hn : (fn.name == "runtime.NumGoroutine") = false) (hb : fn.body.isSome = true)
    (h : ∀ (k nn : Nat → Int) (f1 s1 n c f2 s2 m d : Nat) (X Y : List Value), n > 65536 ∨ m > 65536 →
      ACalls Tryd.prog M f [.agg ⟨cellsI .u8 32 k⟩, .agg ⟨cellsI .u8 12 nn⟩, .slice (some ⟨0, f1, some s1⟩) n c, .slice (some ⟨1, f2, some s2⟩) m d] [⟨X, true, 1, true⟩, ⟨Y, true, 1, true⟩]
        (.slice none 0 0) [⟨X, true, 1, true⟩, ⟨Y, true, 1, true⟩] []) : (noSealSum f).SoundC Tryd.prog M := by
  refine sumC_sound hf hn hb fun args os v os' ns hs hp => ?_
  simp only [noSealSum] at hs hp ⊢
  split at hs
  · rename_i K N f1 s1 n c f2 s2 m d X Y
    split at hs
    · rename_i hk
      cases hs
      simp only [Bool.and_eq_true] at hk
      have h1 : (Nat.blt 65536 n || Nat.blt 65536 m) = true := hp (_, true) (List.Mem.head _)
      have eK := isB_eq hk.1
      have eN := isB_eq hk.2
      have := h (wd K) (wd N) f1 s1 n c f2 s2 m d X Y (by
        rcases Bool.or_eq_true_iff.1 h1 with h | h
        · exact .inl (Nat.blt_eq.mp h)
        · exact .inr (Nat.blt_eq.mp h))
      rw [← eK, ← eN] at this
      exact ⟨this, fun _ => rfl⟩
    · cases hs
  · cases hs

/-! ### The two texts -/
def lenA (n : Nat) (b : Bool) : Bool × Bool := (decide ((n : Int) > 65536), b)
def sealPins (k nn : Nat → Int) (X : List Value) (s1 f1 n c : Nat) (Y : List Value) (s2 f2 m d : Nat) (H : List Value) (sh ch : Nat) : Pins :=
  [lenA n false, lenA m false, (rngB (cellsI .u8 32 k), true), (rngB (cellsI .u8 12 nn), true), (dataB X s1 f1 n c && Nat.ble n 1048576, true),
   (rngB (cellsI .u8 32 k), true), (rngB (cellsI .u8 12 nn), true), (dataB H sh 0 n ch && Nat.ble n 1048576, true), (dataB Y s2 f2 m d && Nat.ble m 1048576, true)]
def tagC (k nn : Nat → Int) (H : List Value) (n : Nat) (Y : List Value) (f2 m : Nat) : List Value := tagV (wd (cellsI .u8 32 k)) (wd (cellsI .u8 12 nn)) H 0 n Y f2 m
def hidS (k nn : Nat → Int) (X : List Value) (f1 n e : Nat) : List Value := cellsI .u8 (n + e) (ext (strF (cellsI .u8 32 k) (cellsI .u8 12 nn) X f1) n)

set_option maxRecDepth 100000 in
theorem r19 (M : Mem) (k nn : Nat → Int) (f1 s1 n c f2 s2 m d : Nat) (X Y : List Value) : evFU Tryd.prog M (ovX Tryd.prog M) [30] [] [streamSum 49 0, tagSum 50] [13, 17] 300 Tryd.f19 [.agg ⟨cellsI .u8 32 k⟩, .agg ⟨cellsI .u8 12 nn⟩, .slice (some ⟨0, f1, some s1⟩) n c, .slice (some ⟨1, f2, some s2⟩) m d] [⟨X, true, 1, true⟩, ⟨Y, true, 1, true⟩] [false, false]
   = some ((.slice (some ⟨2, 0, some ((n + 16) * 1)⟩) (n + 16) (n + 16), [⟨X, true, 1, true⟩, ⟨Y, true, 1, true⟩], [⟨(hidS k nn X f1 n 0).take (n * 1) ++ ((tagC k nn (hidS k nn X f1 n 0) n Y f2 m).drop 0).take (16 * 1), true, 1, true⟩]),
      sealPins k nn X s1 f1 n c Y s2 f2 m d (hidS k nn X f1 n 0) (n + 0) (n + 0) ++ [(decide (n + 0 = n) && (decide (n + 0 = n * 1) && (decide ((hidS k nn X f1 n 0).length = n + 0) && (room (n + 16) 1 && true))), true)]) := by kernel_rfl
set_option maxRecDepth 100000 in
theorem r21 (M : Mem) (k nn : Nat → Int) (f1 s1 n c f2 s2 m d : Nat) (X Y : List Value) : evFU Tryd.prog M (ovR Tryd.prog M) [30] [] [streamSum 51 16, tagSum 52] [13, 17] 300 Tryd.f21 [.agg ⟨cellsI .u8 32 k⟩, .agg ⟨cellsI .u8 12 nn⟩, .slice (some ⟨0, f1, some s1⟩) n c, .slice (some ⟨1, f2, some s2⟩) m d] [⟨X, true, 1, true⟩, ⟨Y, true, 1, true⟩] [false, false]
   = some ((.slice (some ⟨2, 0, some (n + 16)⟩) (n + 16) (n + 16), [⟨X, true, 1, true⟩, ⟨Y, true, 1, true⟩], [⟨wr (hidS k nn X f1 n 16) (0 + n * 1) (((tagC k nn (hidS k nn X f1 n 16) n Y f2 m).drop 0).take (16 * 1)), true, 1, true⟩]),
      sealPins k nn X s1 f1 n c Y s2 f2 m d (hidS k nn X f1 n 16) (n + 16) (n + 16) ++ [(decide (n + 16 ≤ n + 16) && (decide ((hidS k nn X f1 n 16).length = n + 16) && (decide (0 + (n + 16) * 1 ≤ n + 16) && true)), true)]) := by kernel_rfl

theorem tagV_cells (k nn : Nat → Int) (X : List Value) (f1 n : Nat) (Y : List Value) (f2 m : Nat) : tagV k nn X f1 n Y f2 m = cellsI .u8 16 (wd (tagV k nn X f1 n Y f2 m)) := isB_eq (by unfold tagV tagF; exact isB_cells)
theorem drop_take_all {l : List Value} {n : Nat} (h : l.length = n) : (l.drop 0).take (n * 1) = l := by rw [List.drop_zero, List.take_of_length_le (by omega)]

theorem ext_lt {x : Nat → Int} {n i : Nat} (h : i < n) : ext x n i = x i := by simp [ext, Nat.blt_eq.mpr h]

theorem tagC_eq (k nn : Nat → Int) (X : List Value) (f1 n e : Nat) (Y : List Value) (f2 m : Nat) : tagC k nn (hidS k nn X f1 n e) n Y f2 m = tagV (wd (cellsI .u8 32 k)) (wd (cellsI .u8 12 nn)) (hidV (cellsI .u8 32 k) (cellsI .u8 12 nn) X f1 n) 0 n Y f2 m :=
  tagV_congr fun i hi => by
    rw [Nat.zero_add]
    unfold hidS hidV
    rw [wd_cellsI (by omega), wd_cellsI hi, ext_lt hi]

theorem hidS_take (k nn : Nat → Int) (X : List Value) (f1 n : Nat) : (hidS k nn X f1 n 0).take (n * 1) = cellsI .u8 n (strF (cellsI .u8 32 k) (cellsI .u8 12 nn) X f1) := by
  unfold hidS
  rw [List.take_of_length_le (by rw [cellsI_length]; omega), Nat.add_zero]
  exact cellsI_congr fun i hi => ext_lt hi

theorem bits_has8 (op : BinOp) (a b : Int) : IntKind.u8.has (bits op .u8 a b) := by
  unfold bits
  have : ∀ n, IntKind.u8.has (IntKind.u8.wrap n) := fun n => by rw [wrap_u8]; show 0 ≤ _ ∧ _ ≤ (255 : Int); omega
  exact this _
theorem strF_has (K N X : List Value) (f p : Nat) : IntKind.u8.has (strF K N X f p) := by
  unfold strF
  exact bits_has8 _ _ _

theorem dataH (k nn : Nat → Int) (X : List Value) (f1 n e : Nat) (hn : n ≤ 65536) : (dataB (hidS k nn X f1 n e) (n + e) 0 n (n + e) && Nat.ble n 1048576) = true := by
  rw [Bool.and_eq_true]
  refine ⟨dataB_iff.2 ⟨cellsI_length _ _ _, by omega, by omega, by omega, fun i hi => ?_⟩, Nat.ble_eq_true_of_le (by omega)⟩
  unfold hidS
  rw [Nat.zero_add, wd_cellsI (by omega), ext_lt hi]
  refine ⟨?_, hasB_iff.2 (strF_has _ _ _ _ _)⟩
  have hi' : i < n + e := by omega
  simp [atC, cellsI, hi', isI]

theorem sealPins_held {k nn : Nat → Int} {X Y : List Value} {s1 f1 n c s2 f2 m d : Nat} {e : Nat} (hk : rngB (cellsI .u8 32 k) = true) (hnn : rngB (cellsI .u8 12 nn) = true) (hd : dataB X s1 f1 n c = true) (hn : n ≤ 65536) (hd2 : dataB Y s2 f2 m d = true) (hm : m ≤ 65536) :
    Held (sealPins k nn X s1 f1 n c Y s2 f2 m d (hidS k nn X f1 n e) (n + e) (n + e)) := by
  unfold sealPins lenA
  exact held_cons (by rw [decide_eq_false_iff_not]; omega) (held_cons (by rw [decide_eq_false_iff_not]; omega) (held_cons hk (held_cons hnn (held_cons (by rw [hd]; exact Nat.ble_eq_true_of_le (by omega)) (held_cons hk (held_cons hnn (held_cons (dataH k nn X f1 n e hn) (held_one (by rw [hd2]; exact Nat.ble_eq_true_of_le (by omega))))))))))

theorem seal19 (M : Mem) : (sealSum 19).SoundC Tryd.prog M := sealSum_sound Tryd.func19 (by kernel_rfl) (by kernel_rfl) fun k nn f1 s1 n c f2 s2 m d X Y hk hnn hd hn hd2 hm => by
  have := acalls_of_evFU (ovX_ok _ _) (consC (stream49 M) (consC (tag50 M) nilC)) mix Tryd.func19 (hooksOk_nil _) (r19 M k nn f1 s1 n c f2 s2 m d X Y) (app_held (sealPins_held hk hnn hd hn hd2 hm) (held_one (by
    simp only [room, Bool.and_eq_true, decide_eq_true_eq]
    refine ⟨by omega, by omega, ?_, by omega, trivial⟩
    unfold hidS; rw [cellsI_length])))
  rw [hidS_take, tagC_eq, drop_take_all (by rw [tagV_cells, cellsI_length]), tagV_cells, cat_cells, Nat.mul_one] at this
  exact this

theorem seal21 (W : World) : (sealSum 21).SoundC Tryd.prog (memL tblCha W) := sealSum_sound Tryd.func21 (by kernel_rfl) (by kernel_rfl) fun k nn f1 s1 n c f2 s2 m d X Y hk hnn hd hn hd2 hm => by
  have := acalls_of_evFU (ovR_ok _ _) (consC (stream51 W) (consC (tag52 W) nilC)) mix Tryd.func21 (hooksOk_nil _) (r21 (memL tblCha W) k nn f1 s1 n c f2 s2 m d X Y) (app_held (sealPins_held hk hnn hd hn hd2 hm) (held_one (by
    simp only [Bool.and_eq_true, decide_eq_true_eq]
    refine ⟨by omega, ?_, by omega, trivial⟩
    unfold hidS; rw [cellsI_length])))
  have e : wr (hidS k nn X f1 n 16) (0 + n * 1) (((tagC k nn (hidS k nn X f1 n 16) n Y f2 m).drop 0).take (16 * 1)) = cellsI .u8 (n + 16) (boxF (cellsI .u8 32 k) (cellsI .u8 12 nn) X f1 n Y f2 m) := by
    rw [tagC_eq, drop_take_all (by rw [tagV_cells, cellsI_length]), tagV_cells, show 0 + n * 1 = n by omega]
    unfold hidS
    rw [wr_put (by omega)]
    refine cellsI_congr fun i hi => ?_
    unfold boxF catF
    by_cases h : i < n
    · rw [putF_lo h, ext_lt h, Nat.blt_eq.mpr h]; rfl
    · have hb : Nat.blt i n = false := by rw [Bool.eq_false_iff]; exact fun e => h (Nat.blt_eq.mp e)
      rw [putF_in (by omega) hi, hb]; rfl
  rw [e] at this
  exact this

/-! ### Too long -/
set_option maxRecDepth 100000 in
theorem no19a (M : Mem) (k nn : Nat → Int) (f1 s1 n c f2 s2 m d : Nat) (X Y : List Value) : evFU Tryd.prog M (ovX Tryd.prog M) [] [] [] [13, 17] 300 Tryd.f19 [.agg ⟨cellsI .u8 32 k⟩, .agg ⟨cellsI .u8 12 nn⟩, .slice (some ⟨0, f1, some s1⟩) n c, .slice (some ⟨1, f2, some s2⟩) m d] [⟨X, true, 1, true⟩, ⟨Y, true, 1, true⟩] [true]
   = some ((.slice none 0 0, [⟨X, true, 1, true⟩, ⟨Y, true, 1, true⟩], []), [lenA n true]) := by kernel_rfl
set_option maxRecDepth 100000 in
theorem no19b (M : Mem) (k nn : Nat → Int) (f1 s1 n c f2 s2 m d : Nat) (X Y : List Value) : evFU Tryd.prog M (ovX Tryd.prog M) [] [] [] [13, 17] 300 Tryd.f19 [.agg ⟨cellsI .u8 32 k⟩, .agg ⟨cellsI .u8 12 nn⟩, .slice (some ⟨0, f1, some s1⟩) n c, .slice (some ⟨1, f2, some s2⟩) m d] [⟨X, true, 1, true⟩, ⟨Y, true, 1, true⟩] [false, true]
   = some ((.slice none 0 0, [⟨X, true, 1, true⟩, ⟨Y, true, 1, true⟩], []), [lenA n false, lenA m true]) := by kernel_rfl
set_option maxRecDepth 100000 in
theorem no21a (M : Mem) (k nn : Nat → Int) (f1 s1 n c f2 s2 m d : Nat) (X Y : List Value) : evFU Tryd.prog M (ovX Tryd.prog M) [] [] [] [13, 17] 300 Tryd.f21 [.agg ⟨cellsI .u8 32 k⟩, .agg ⟨cellsI .u8 12 nn⟩, .slice (some ⟨0, f1, some s1⟩) n c, .slice (some ⟨1, f2, some s2⟩) m d] [⟨X, true, 1, true⟩, ⟨Y, true, 1, true⟩] [true]
   = some ((.slice none 0 0, [⟨X, true, 1, true⟩, ⟨Y, true, 1, true⟩], []), [lenA n true]) := by kernel_rfl
set_option maxRecDepth 100000 in
theorem no21b (M : Mem) (k nn : Nat → Int) (f1 s1 n c f2 s2 m d : Nat) (X Y : List Value) : evFU Tryd.prog M (ovX Tryd.prog M) [] [] [] [13, 17] 300 Tryd.f21 [.agg ⟨cellsI .u8 32 k⟩, .agg ⟨cellsI .u8 12 nn⟩, .slice (some ⟨0, f1, some s1⟩) n c, .slice (some ⟨1, f2, some s2⟩) m d] [⟨X, true, 1, true⟩, ⟨Y, true, 1, true⟩] [false, true]
   = some ((.slice none 0 0, [⟨X, true, 1, true⟩, ⟨Y, true, 1, true⟩], []), [lenA n false, lenA m true]) := by kernel_rfl

theorem noSeal19 (M : Mem) : (noSealSum 19).SoundC Tryd.prog M := noSealSum_sound Tryd.func19 (by kernel_rfl) (by kernel_rfl) fun k nn f1 s1 n c f2 s2 m d X Y h => by
  by_cases hn : n > 65536
  · exact acalls_of_evFU (ovX_ok _ _) nilC mix Tryd.func19 (hooksOk_nil _) (no19a M k nn f1 s1 n c f2 s2 m d X Y) (held_one (by rw [decide_eq_true_eq]; omega))
  · exact acalls_of_evFU (ovX_ok _ _) nilC mix Tryd.func19 (hooksOk_nil _) (no19b M k nn f1 s1 n c f2 s2 m d X Y) (held_cons (by rw [decide_eq_false_iff_not]; omega) (held_one (by rw [decide_eq_true_eq]; omega)))
theorem noSeal21 (M : Mem) : (noSealSum 21).SoundC Tryd.prog M := noSealSum_sound Tryd.func21 (by kernel_rfl) (by kernel_rfl) fun k nn f1 s1 n c f2 s2 m d X Y h => by
  by_cases hn : n > 65536
  · exact acalls_of_evFU (ovX_ok _ _) nilC mix Tryd.func21 (hooksOk_nil _) (no21a M k nn f1 s1 n c f2 s2 m d X Y) (held_one (by rw [decide_eq_true_eq]; omega))
  · exact acalls_of_evFU (ovX_ok _ _) nilC mix Tryd.func21 (hooksOk_nil _) (no21b M k nn f1 s1 n c f2 s2 m d X Y) (held_cons (by rw [decide_eq_false_iff_not]; omega) (held_one (by rw [decide_eq_true_eq]; omega)))

end Go.Proofs.YtgnbmjhljlbkhaaDoor
