/- Open, the specification's and the program's: contracts.
   Conditions: bytes in range. -/
import Derived.Test.YtgnbmjhljlbkhaaDoorAbD
import Derived.Test.YtgnbmjhljlbkhaaDoorArgs
open Go.Ab Go.Num
set_option linter.unusedVariables false
set_option linter.unusedSimpArgs false
namespace Go.Proofs.YtgnbmjhljlbkhaaDoor

/-- The hidden text's length, as both texts compute it. -/
def lO (n : Nat) : Int := IntKind.i64.wrap ((n : Int) - 16)
def nO (n : Nat) : Nat := (lO n).toNat
theorem lO_eq {n : Nat} (h : n ≤ 4611686018427387904) : lO n = (n : Int) - 16 := by unfold lO; exact Ab.wrap_i64 (by omega) (by omega)
theorem nO_eq {n : Nat} (h : n ≤ 4611686018427387904) : nO n = n - 16 := by unfold nO; rw [lO_eq h]; omega

def tagO (k nn : Nat → Int) (X : List Value) (f1 n : Nat) (Y : List Value) (f2 m : Nat) : List Value := tagV (wd (cellsI .u8 32 k)) (wd (cellsI .u8 12 nn)) X f1 n Y f2 m
def endO (X : List Value) (f1 n : Nat) : List Value := (X.drop (f1 + nO n * 1)).take ((n - nO n) * 1)
def strO (k nn : Nat → Int) (X : List Value) (f1 n e : Nat) : List Value := cellsI .u8 (n + e) (ext (strF (cellsI .u8 32 k) (cellsI .u8 12 nn) X f1) n)
def slO (n c : Nat) : Bool × Bool := (decide (abounds n c none (some (.int .i64 (lO n))) none = some (0, nO n, c)), true)
def slE (n c : Nat) : Bool × Bool := (decide (abounds n c (some (.int .i64 (lO n))) none none = some (nO n, n, c)), true)
def lenO (n m : Nat) : Pins := [(decide (lO n < 0), false), (decide (lO n > 65536), false), (decide ((m : Int) > 65536), false)]
def keyO (k nn : Nat → Int) : Pins := [(rngB (cellsI .u8 32 k), true), (rngB (cellsI .u8 12 nn), true)]
def datO (X : List Value) (s f n c : Nat) : Pins := [(dataB X s f n c && Nat.ble n 1048576, true)]
def headO (k nn : Nat → Int) (X : List Value) (s1 f1 n c : Nat) (Y : List Value) (s2 f2 m d : Nat) : Pins := lenO n m ++ slO n c :: (keyO k nn ++ (datO X s1 f1 (nO n) c ++ (datO Y s2 f2 m d ++ [slE n c])))
def cmpS (k nn : Nat → Int) (X : List Value) (s1 f1 n : Nat) (Y : List Value) (f2 m : Nat) (b : Bool) : Pins :=
  [((endO X f1 n).all (isI .u8) && (decide (X.length = s1) && (decide (f1 + nO n * 1 + (n - nO n) * 1 ≤ s1) && decide (n - nO n ≤ n - nO n))), true), (!((strB (tagO k nn X f1 (nO n) Y f2 m)).toList == (strB (endO X f1 n)).toList), b)]
def cmpI (k nn : Nat → Int) (X : List Value) (s1 f1 n : Nat) (Y : List Value) (f2 m : Nat) (b : Bool) : Pins :=
  [(decide (0 < 16) && decide (16 ≤ n - nO n), true), (arrB ⟨X, true, 1, true⟩ s1 (f1 + nO n * 1) 16 .u8, true), (!allEq (wd (tagO k nn X f1 (nO n) Y f2 m)) (fun j => wd X (f1 + nO n * 1 + j)) 0 16, b)]
def tailO (k nn : Nat → Int) (X : List Value) (s1 f1 n c : Nat) : Pins := slO n c :: (keyO k nn ++ datO X s1 f1 (nO n) c)

set_option maxRecDepth 100000 in
theorem r25 (M : Mem) (k nn : Nat → Int) (f1 s1 n c f2 s2 m d : Nat) (X Y : List Value) : evFU Tryd.prog M (ovE Tryd.prog M) [30, 37, 38, 44] [] [streamSum 49 0, tagSum 50] [16, 19, 24, 39] 300 Tryd.f25 [.agg ⟨cellsI .u8 32 k⟩, .agg ⟨cellsI .u8 12 nn⟩, .slice (some ⟨0, f1, some s1⟩) n c, .slice (some ⟨1, f2, some s2⟩) m d] [⟨X, true, 1, true⟩, ⟨Y, true, 1, true⟩] [false, false, false, false]
   = some ((.tuple ⟨[.slice (some ⟨2, 0, some (nO n + 0)⟩) (nO n) (nO n + 0), .bool true]⟩, [⟨X, true, 1, true⟩, ⟨Y, true, 1, true⟩], [⟨strO k nn X f1 (nO n) 0, true, 1, true⟩]),
      headO k nn X s1 f1 n c Y s2 f2 m d ++ (cmpS k nn X s1 f1 n Y f2 m false ++ tailO k nn X s1 f1 n c)) := by kernel_rfl
set_option maxRecDepth 100000 in
theorem r25f (M : Mem) (k nn : Nat → Int) (f1 s1 n c f2 s2 m d : Nat) (X Y : List Value) : evFU Tryd.prog M (ovE Tryd.prog M) [30, 37, 38, 44] [] [streamSum 49 0, tagSum 50] [16, 19, 24, 39] 300 Tryd.f25 [.agg ⟨cellsI .u8 32 k⟩, .agg ⟨cellsI .u8 12 nn⟩, .slice (some ⟨0, f1, some s1⟩) n c, .slice (some ⟨1, f2, some s2⟩) m d] [⟨X, true, 1, true⟩, ⟨Y, true, 1, true⟩] [false, false, false, true]
   = some ((.tuple ⟨[.slice none 0 0, .bool false]⟩, [⟨X, true, 1, true⟩, ⟨Y, true, 1, true⟩], []), headO k nn X s1 f1 n c Y s2 f2 m d ++ cmpS k nn X s1 f1 n Y f2 m true) := by kernel_rfl
set_option maxRecDepth 100000 in
theorem r26 (M : Mem) (k nn : Nat → Int) (f1 s1 n c f2 s2 m d : Nat) (X Y : List Value) : evFU Tryd.prog M (ovE Tryd.prog M) [29, 34, 35, 36, 42] [] [streamSum 51 16, tagSum 52] [15, 18, 23, 37] 300 Tryd.f26 [.agg ⟨cellsI .u8 32 k⟩, .agg ⟨cellsI .u8 12 nn⟩, .slice (some ⟨0, f1, some s1⟩) n c, .slice (some ⟨1, f2, some s2⟩) m d] [⟨X, true, 1, true⟩, ⟨Y, true, 1, true⟩] [false, false, false, false]
   = some ((.tuple ⟨[.slice (some ⟨2, 0, some (nO n + 16)⟩) (nO n) (nO n + 16), .bool true]⟩, [⟨X, true, 1, true⟩, ⟨Y, true, 1, true⟩], [⟨strO k nn X f1 (nO n) 16, true, 1, true⟩]),
      headO k nn X s1 f1 n c Y s2 f2 m d ++ (cmpI k nn X s1 f1 n Y f2 m false ++ tailO k nn X s1 f1 n c)) := by kernel_rfl
set_option maxRecDepth 100000 in
theorem r26f (M : Mem) (k nn : Nat → Int) (f1 s1 n c f2 s2 m d : Nat) (X Y : List Value) : evFU Tryd.prog M (ovE Tryd.prog M) [29, 34, 35, 36, 42] [] [streamSum 51 16, tagSum 52] [15, 18, 23, 37] 300 Tryd.f26 [.agg ⟨cellsI .u8 32 k⟩, .agg ⟨cellsI .u8 12 nn⟩, .slice (some ⟨0, f1, some s1⟩) n c, .slice (some ⟨1, f2, some s2⟩) m d] [⟨X, true, 1, true⟩, ⟨Y, true, 1, true⟩] [false, false, false, true]
   = some ((.tuple ⟨[.slice none 0 0, .bool false]⟩, [⟨X, true, 1, true⟩, ⟨Y, true, 1, true⟩], []), headO k nn X s1 f1 n c Y s2 f2 m d ++ cmpI k nn X s1 f1 n Y f2 m true) := by kernel_rfl

/-! ### The contracts -/
/-- The box's last sixteen bytes are the tag. -/
def tagB (K N X : List Value) (f1 n : Nat) (Y : List Value) (f2 m : Nat) : Bool := allEq (wd (tagV (wd K) (wd N) X f1 (n - 16) Y f2 m)) (fun j => wd X (f1 + (n - 16) + j)) 0 16
/-- What was hidden. -/
def textV (K N X : List Value) (f1 n e : Nat) : List Value := cellsI .u8 (n - 16 + e) (ext (strF K N X f1) (n - 16))

def openSum (f : FuncId) (e : Nat) : Sum :=
  { f := f, ro := true
    S := fun args os => match args, os with
      | [.agg ⟨K⟩, .agg ⟨N⟩, .slice (some ⟨0, f1, some s1⟩) n c, .slice (some ⟨1, f2, some s2⟩) m d], [⟨X, true, 1, true⟩, ⟨Y, true, 1, true⟩] =>
        if isB 32 K && isB 12 N then some (.tuple ⟨[.slice (some ⟨2, 0, some (n - 16 + e)⟩) (n - 16) (n - 16 + e), .bool true]⟩, [⟨X, true, 1, true⟩, ⟨Y, true, 1, true⟩], [⟨textV K N X f1 n e, true, 1, true⟩]) else none
      | _, _ => none
    C := fun args os => match args, os with
      | [.agg ⟨K⟩, .agg ⟨N⟩, .slice (some ⟨0, f1, some s1⟩) n c, .slice (some ⟨1, f2, some s2⟩) m d], [⟨X, _, _, _⟩, ⟨Y, _, _, _⟩] =>
        [(rngB K, true), (rngB N, true), (dataB X s1 f1 n c && (Nat.ble 16 n && Nat.ble n 65552), true), (dataB Y s2 f2 m d && Nat.ble m 65536, true), (tagB K N X f1 n Y f2 m, true)]
      | _, _ => [] }
/-- Refused: by the lengths, or by the tag. -/
def lenBad (n m : Nat) : Bool := Nat.blt n 16 || (Nat.blt 65552 n || Nat.blt 65536 m)
def noOpenSum (f : FuncId) : Sum :=
  { f := f, ro := true
    S := fun args os => match args, os with
      | [.agg ⟨K⟩, .agg ⟨N⟩, .slice (some ⟨0, f1, some s1⟩) n c, .slice (some ⟨1, f2, some s2⟩) m d], [⟨X, true, 1, true⟩, ⟨Y, true, 1, true⟩] =>
        if isB 32 K && isB 12 N then some (.tuple ⟨[.slice none 0 0, .bool false]⟩, [⟨X, true, 1, true⟩, ⟨Y, true, 1, true⟩], []) else none
      | _, _ => none
    C := fun args os => match args, os with
      | [.agg ⟨K⟩, .agg ⟨N⟩, .slice (some ⟨0, f1, some s1⟩) n c, .slice (some ⟨1, f2, some s2⟩) m d], [⟨X, _, _, _⟩, ⟨Y, _, _, _⟩] =>
        [(rngB K, true), (rngB N, true), (dataB X s1 f1 n c, true), (dataB Y s2 f2 m d, true), (lenBad n m || !tagB K N X f1 n Y f2 m, true)]
      | _, _ => [] }

theorem tagO_eq (k nn : Nat → Int) (X : List Value) (f1 n : Nat) (Y : List Value) (f2 m : Nat) (hn : n ≤ 4611686018427387904) :
    allEq (wd (tagO k nn X f1 (nO n) Y f2 m)) (fun j => wd X (f1 + nO n * 1 + j)) 0 16 = tagB (cellsI .u8 32 k) (cellsI .u8 12 nn) X f1 n Y f2 m := by
  unfold tagO tagB
  rw [nO_eq hn, Nat.mul_one]

theorem tagF_has (k : Nat → Int) (X : List Value) (f n : Nat) {i : Nat} (hi : i < 16) : IntKind.u8.has (wd (tagF k X f n) i) := by
  unfold tagF
  rw [wd_cellsI hi]
  show 0 ≤ _ ∧ _ ≤ (255 : Int)
  omega

/-- Both texts compare the same. -/
theorem cmp_str {k nn : Nat → Int} {X : List Value} {s1 f1 n c : Nat} {Y : List Value} {f2 m : Nat} (hd : dataB X s1 f1 n c = true) (h16 : 16 ≤ n) :
    ((strB (tagO k nn X f1 (nO n) Y f2 m)).toList == (strB (endO X f1 n)).toList) = tagB (cellsI .u8 32 k) (cellsI .u8 12 nn) X f1 n Y f2 m := by
  obtain ⟨hl, hs, hc, hn, hb⟩ := dataB_iff.1 hd
  have en := nO_eq hn
  have l1 : (tagO k nn X f1 (nO n) Y f2 m).length = 16 := by unfold tagO; rw [tagV_cells, cellsI_length]
  have l2 : (endO X f1 n).length = 16 := by unfold endO; rw [en]; simp; omega
  have at2 : ∀ i, i < 16 → vint (atC (endO X f1 n) i) = wd X (f1 + (n - 16) + i) := fun i hi => by
    unfold endO wd
    rw [en]
    congr 1
    simp only [atC, List.getElem?_take, List.getElem?_drop]
    rw [if_pos (by omega), Nat.mul_one]
  rw [Bool.eq_iff_iff, strB_eq (us := tagO k nn X f1 (nO n) Y f2 m) (vs := endO X f1 n) (by rw [l1, l2]) (fun i hi => tagF_has _ _ _ _ (by omega)) (fun i hi => by
    rw [at2 i (by omega)]
    have := (hb (n - 16 + i) (by omega)).2
    rw [← Nat.add_assoc] at this
    exact hasB_iff.1 this)]
  unfold tagB
  rw [allEq_iff, l1]
  have e : tagO k nn X f1 (nO n) Y f2 m = tagV (wd (cellsI .u8 32 k)) (wd (cellsI .u8 12 nn)) X f1 (n - 16) Y f2 m := by unfold tagO; rw [en]
  constructor
  · intro h j _ hj
    have := h j (by omega)
    rw [at2 j (by omega), e] at this
    exact this
  · intro h i hi
    rw [at2 i hi, e]
    exact h i (by omega) (by omega)

theorem abounds_hi {n c h : Nat} (h1 : h ≤ c) (hh : (lO n).toNat = h) (h0 : 0 ≤ lO n) : abounds n c none (some (.int .i64 (lO n))) none = some (0, h, c) := by
  delta abounds
  simp only [bnd]
  rw [if_pos ⟨h0, by omega⟩]
  simp only [hh]
theorem abounds_lo {n c h : Nat} (h1 : h ≤ n) (hc : n ≤ c) (hh : (lO n).toNat = h) (h0 : 0 ≤ lO n) : abounds n c (some (.int .i64 (lO n))) none none = some (h, n, c) := by
  delta abounds
  simp only [bnd]
  rw [if_pos (by omega)]
  simp only [hh]
  rw [if_pos (by omega)]

theorem headO_held {k nn : Nat → Int} {X : List Value} {s1 f1 n c : Nat} {Y : List Value} {s2 f2 m d : Nat} (hk : rngB (cellsI .u8 32 k) = true) (hnn : rngB (cellsI .u8 12 nn) = true) (hd : dataB X s1 f1 n c = true) (hd2 : dataB Y s2 f2 m d = true) (h1 : 16 ≤ n) (h2 : n ≤ 65552) (h3 : m ≤ 65536) :
    Held (headO k nn X s1 f1 n c Y s2 f2 m d) ∧ Held (tailO k nn X s1 f1 n c) := by
  obtain ⟨hl, hs, hc, hn, hb⟩ := dataB_iff.1 hd
  have el := lO_eq hn
  have en := nO_eq hn
  have hsl : Held [slO n c] := held_one (by rw [decide_eq_true_eq]; exact abounds_hi (by omega) rfl (by omega))
  have hse : Held [slE n c] := held_one (by rw [decide_eq_true_eq]; exact abounds_lo (by omega) hc rfl (by omega))
  have hx : Held (datO X s1 f1 (nO n) c) := held_one (by
    rw [Bool.and_eq_true]
    refine ⟨dataB_iff.2 ⟨hl, by omega, by omega, by omega, fun i hi => hb i (by omega)⟩, Nat.ble_eq_true_of_le (by omega)⟩)
  have hy : Held (datO Y s2 f2 m d) := held_one (by rw [hd2]; exact Nat.ble_eq_true_of_le (by omega))
  have hkk : Held (keyO k nn) := held_cons hk (held_one hnn)
  refine ⟨?_, ?_⟩
  · unfold headO
    refine app_held (p := lenO n m) (held_cons ?_ (held_cons ?_ (held_one ?_))) (app_held (p := [slO n c]) hsl (app_held hkk (app_held hx (app_held hy hse))))
    · rw [decide_eq_false_iff_not]; omega
    · rw [decide_eq_false_iff_not]; omega
    · rw [decide_eq_false_iff_not]; omega
  · unfold tailO
    exact app_held (p := [slO n c]) hsl (app_held hkk hx)

theorem cmpS_held {k nn : Nat → Int} {X : List Value} {s1 f1 n c : Nat} {Y : List Value} {f2 m : Nat} (hd : dataB X s1 f1 n c = true) (h16 : 16 ≤ n) {b : Bool} (h : tagB (cellsI .u8 32 k) (cellsI .u8 12 nn) X f1 n Y f2 m = !b) : Held (cmpS k nn X s1 f1 n Y f2 m b) := by
  obtain ⟨hl, hs, hc, hn, hb⟩ := dataB_iff.1 hd
  have en := nO_eq hn
  refine held_cons ?_ (held_one (by rw [cmp_str hd h16, h, Bool.not_not]))
  simp only [Bool.and_eq_true, decide_eq_true_eq]
  refine ⟨?_, hl, by omega, Nat.le_refl _⟩
  rw [List.all_eq_true]
  intro v hv
  obtain ⟨i, hi, rfl⟩ := List.getElem_of_mem hv
  unfold endO at hi ⊢
  simp only [List.length_take, List.length_drop] at hi
  simp only [List.getElem_take, List.getElem_drop]
  have h1 := (hb (n - 16 + i) (by omega)).1
  have hlt : f1 + nO n * 1 + i < X.length := by omega
  have e : X[f1 + nO n * 1 + i] = atC X (f1 + (n - 16 + i)) := by
    have : f1 + nO n * 1 + i = f1 + (n - 16 + i) := by omega
    rw [← this]
    unfold atC
    rw [List.getElem?_eq_getElem hlt]
    rfl
  rw [e]
  exact h1

theorem cmpI_held {k nn : Nat → Int} {X : List Value} {s1 f1 n c : Nat} {Y : List Value} {f2 m : Nat} (hd : dataB X s1 f1 n c = true) (h16 : 16 ≤ n) {b : Bool} (h : tagB (cellsI .u8 32 k) (cellsI .u8 12 nn) X f1 n Y f2 m = !b) : Held (cmpI k nn X s1 f1 n Y f2 m b) := by
  obtain ⟨hl, hs, hc, hn, hb⟩ := dataB_iff.1 hd
  have en := nO_eq hn
  refine held_cons ?_ (held_cons ?_ (held_one (by rw [tagO_eq _ _ _ _ _ _ _ _ hn, h, Bool.not_not])))
  · simp only [Bool.and_eq_true, decide_eq_true_eq]; omega
  · simp only [arrB, Bool.and_eq_true, decide_eq_true_eq, List.all_eq_true, List.mem_range]
    refine ⟨hl, by omega, fun j hj => ?_⟩
    have := (hb (n - 16 + j) (by omega)).1
    rwa [show f1 + (n - 16 + j) = f1 + nO n * 1 + j by omega] at this

theorem openSum_sound {M : Mem} {f : FuncId} {fn : Func} {e : Nat} (hf : Tryd.prog.funcs[f]? = some fn) (hn : (fn.name == "runtime.NumGoroutine") = false) (hb : fn.body.isSome = true)
    (h : ∀ (k nn : Nat → Int) (f1 s1 n c f2 s2 m d : Nat) (X Y : List Value), rngB (cellsI .u8 32 k) = true → rngB (cellsI .u8 12 nn) = true → dataB X s1 f1 n c = true → 16 ≤ n → n ≤ 65552 → dataB Y s2 f2 m d = true → m ≤ 65536 → tagB (cellsI .u8 32 k) (cellsI .u8 12 nn) X f1 n Y f2 m = true →
      ACalls Tryd.prog M f [.agg ⟨cellsI .u8 32 k⟩, .agg ⟨cellsI .u8 12 nn⟩, .slice (some ⟨0, f1, some s1⟩) n c, .slice (some ⟨1, f2, some s2⟩) m d] [⟨X, true, 1, true⟩, ⟨Y, true, 1, true⟩]
        (.tuple ⟨[.slice (some ⟨2, 0, some (nO n + e)⟩) (nO n) (nO n + e), .bool true]⟩) [⟨X, true, 1, true⟩, ⟨Y, true, 1, true⟩] [⟨strO k nn X f1 (nO n) e, true, 1, true⟩]) : (openSum f e).SoundC Tryd.prog M := by
  refine sumC_sound hf hn hb fun args os v os' ns hs hp => ?_
  simp only [openSum] at hs hp ⊢
  split at hs
  · rename_i K N f1 s1 n c f2 s2 m d X Y
    split at hs
    · rename_i hk
      cases hs
      simp only [Bool.and_eq_true] at hk
      have h1 : rngB K = true := hp (rngB K, true) (List.Mem.head _)
      have h2 : rngB N = true := hp (rngB N, true) (List.Mem.tail _ (List.Mem.head _))
      have h3 := hp (_, true) (List.Mem.tail _ (List.Mem.tail _ (List.Mem.head _)))
      have h4 := hp (_, true) (List.Mem.tail _ (List.Mem.tail _ (List.Mem.tail _ (List.Mem.head _))))
      have h5 : tagB K N X f1 n Y f2 m = true := hp (_, true) (List.Mem.tail _ (List.Mem.tail _ (List.Mem.tail _ (List.Mem.tail _ (List.Mem.head _)))))
      simp only [Bool.and_eq_true] at h3 h4
      have eK := isB_eq hk.1
      have eN := isB_eq hk.2
      have := h (wd K) (wd N) f1 s1 n c f2 s2 m d X Y (by rw [← eK]; exact h1) (by rw [← eN]; exact h2) h3.1 (Nat.le_of_ble_eq_true h3.2.1) (Nat.le_of_ble_eq_true h3.2.2) h4.1 (Nat.le_of_ble_eq_true h4.2) (by rw [← eK, ← eN]; exact h5)
      rw [nO_eq (dataB_iff.1 h3.1).2.2.2.1] at this
      unfold strO at this
      rw [← eK, ← eN] at this
      exact ⟨this, fun _ => rfl⟩
    · cases hs
  · cases hs

theorem open25 (M : Mem) : (openSum 25 0).SoundC Tryd.prog M := openSum_sound Tryd.func25 (by kernel_rfl) (by kernel_rfl) fun k nn f1 s1 n c f2 s2 m d X Y hk hnn hd h1 h2 hd2 h3 ht => by
  obtain ⟨a, b⟩ := headO_held hk hnn hd hd2 h1 h2 h3
  exact acalls_of_evFU (ovE_ok _ _) (consC (stream49 M) (consC (tag50 M) nilC)) mix Tryd.func25 (hooksOk_nil _) (r25 M k nn f1 s1 n c f2 s2 m d X Y) (app_held a (app_held (cmpS_held hd h1 (b := false) ht) b))
theorem open26 (W : World) : (openSum 26 16).SoundC Tryd.prog (memL tblCha W) := openSum_sound Tryd.func26 (by kernel_rfl) (by kernel_rfl) fun k nn f1 s1 n c f2 s2 m d X Y hk hnn hd h1 h2 hd2 h3 ht => by
  obtain ⟨a, b⟩ := headO_held hk hnn hd hd2 h1 h2 h3
  exact acalls_of_evFU (ovE_ok _ _) (consC (stream51 W) (consC (tag52 W) nilC)) mix Tryd.func26 (hooksOk_nil _) (r26 (memL tblCha W) k nn f1 s1 n c f2 s2 m d X Y) (app_held a (app_held (cmpI_held hd h1 (b := false) ht) b))

/-! ### Refused -/
set_option maxRecDepth 100000 in
theorem no25a (M : Mem) (k nn : Nat → Int) (f1 s1 n c f2 s2 m d : Nat) (X Y : List Value) : evFU Tryd.prog M (ovE Tryd.prog M) [] [] [] [16, 19, 24] 300 Tryd.f25 [.agg ⟨cellsI .u8 32 k⟩, .agg ⟨cellsI .u8 12 nn⟩, .slice (some ⟨0, f1, some s1⟩) n c, .slice (some ⟨1, f2, some s2⟩) m d] [⟨X, true, 1, true⟩, ⟨Y, true, 1, true⟩] [true]
   = some ((.tuple ⟨[.slice none 0 0, .bool false]⟩, [⟨X, true, 1, true⟩, ⟨Y, true, 1, true⟩], []), [(decide (lO n < 0), true)]) := by kernel_rfl
set_option maxRecDepth 100000 in
theorem no25b (M : Mem) (k nn : Nat → Int) (f1 s1 n c f2 s2 m d : Nat) (X Y : List Value) : evFU Tryd.prog M (ovE Tryd.prog M) [] [] [] [16, 19, 24] 300 Tryd.f25 [.agg ⟨cellsI .u8 32 k⟩, .agg ⟨cellsI .u8 12 nn⟩, .slice (some ⟨0, f1, some s1⟩) n c, .slice (some ⟨1, f2, some s2⟩) m d] [⟨X, true, 1, true⟩, ⟨Y, true, 1, true⟩] [false, true]
   = some ((.tuple ⟨[.slice none 0 0, .bool false]⟩, [⟨X, true, 1, true⟩, ⟨Y, true, 1, true⟩], []), [(decide (lO n < 0), false), (decide (lO n > 65536), true)]) := by kernel_rfl
set_option maxRecDepth 100000 in
theorem no25c (M : Mem) (k nn : Nat → Int) (f1 s1 n c f2 s2 m d : Nat) (X Y : List Value) : evFU Tryd.prog M (ovE Tryd.prog M) [] [] [] [16, 19, 24] 300 Tryd.f25 [.agg ⟨cellsI .u8 32 k⟩, .agg ⟨cellsI .u8 12 nn⟩, .slice (some ⟨0, f1, some s1⟩) n c, .slice (some ⟨1, f2, some s2⟩) m d] [⟨X, true, 1, true⟩, ⟨Y, true, 1, true⟩] [false, false, true]
   = some ((.tuple ⟨[.slice none 0 0, .bool false]⟩, [⟨X, true, 1, true⟩, ⟨Y, true, 1, true⟩], []), [(decide (lO n < 0), false), (decide (lO n > 65536), false), (decide ((m : Int) > 65536), true)]) := by kernel_rfl
set_option maxRecDepth 100000 in
theorem no26a (M : Mem) (k nn : Nat → Int) (f1 s1 n c f2 s2 m d : Nat) (X Y : List Value) : evFU Tryd.prog M (ovE Tryd.prog M) [] [] [] [15, 18, 23] 300 Tryd.f26 [.agg ⟨cellsI .u8 32 k⟩, .agg ⟨cellsI .u8 12 nn⟩, .slice (some ⟨0, f1, some s1⟩) n c, .slice (some ⟨1, f2, some s2⟩) m d] [⟨X, true, 1, true⟩, ⟨Y, true, 1, true⟩] [true]
   = some ((.tuple ⟨[.slice none 0 0, .bool false]⟩, [⟨X, true, 1, true⟩, ⟨Y, true, 1, true⟩], []), [(decide (lO n < 0), true)]) := by kernel_rfl
set_option maxRecDepth 100000 in
theorem no26b (M : Mem) (k nn : Nat → Int) (f1 s1 n c f2 s2 m d : Nat) (X Y : List Value) : evFU Tryd.prog M (ovE Tryd.prog M) [] [] [] [15, 18, 23] 300 Tryd.f26 [.agg ⟨cellsI .u8 32 k⟩, .agg ⟨cellsI .u8 12 nn⟩, .slice (some ⟨0, f1, some s1⟩) n c, .slice (some ⟨1, f2, some s2⟩) m d] [⟨X, true, 1, true⟩, ⟨Y, true, 1, true⟩] [false, true]
   = some ((.tuple ⟨[.slice none 0 0, .bool false]⟩, [⟨X, true, 1, true⟩, ⟨Y, true, 1, true⟩], []), [(decide (lO n < 0), false), (decide (lO n > 65536), true)]) := by kernel_rfl
set_option maxRecDepth 100000 in
theorem no26c (M : Mem) (k nn : Nat → Int) (f1 s1 n c f2 s2 m d : Nat) (X Y : List Value) : evFU Tryd.prog M (ovE Tryd.prog M) [] [] [] [15, 18, 23] 300 Tryd.f26 [.agg ⟨cellsI .u8 32 k⟩, .agg ⟨cellsI .u8 12 nn⟩, .slice (some ⟨0, f1, some s1⟩) n c, .slice (some ⟨1, f2, some s2⟩) m d] [⟨X, true, 1, true⟩, ⟨Y, true, 1, true⟩] [false, false, true]
   = some ((.tuple ⟨[.slice none 0 0, .bool false]⟩, [⟨X, true, 1, true⟩, ⟨Y, true, 1, true⟩], []), [(decide (lO n < 0), false), (decide (lO n > 65536), false), (decide ((m : Int) > 65536), true)]) := by kernel_rfl

theorem noOpenSum_sound {M : Mem} {f : FuncId} {fn : Func} (hf : Tryd.prog.funcs[f]? = some fn) (hn : (fn.name == "runtime.NumGoroutine") = false) (hb : fn.body.isSome = true)
    (h : ∀ (k nn : Nat → Int) (f1 s1 n c f2 s2 m d : Nat) (X Y : List Value), rngB (cellsI .u8 32 k) = true → rngB (cellsI .u8 12 nn) = true → dataB X s1 f1 n c = true → dataB Y s2 f2 m d = true → (lenBad n m = true ∨ tagB (cellsI .u8 32 k) (cellsI .u8 12 nn) X f1 n Y f2 m = false) →
      ACalls Tryd.prog M f [.agg ⟨cellsI .u8 32 k⟩, .agg ⟨cellsI .u8 12 nn⟩, .slice (some ⟨0, f1, some s1⟩) n c, .slice (some ⟨1, f2, some s2⟩) m d] [⟨X, true, 1, true⟩, ⟨Y, true, 1, true⟩]
        (.tuple ⟨[.slice none 0 0, .bool false]⟩) [⟨X, true, 1, true⟩, ⟨Y, true, 1, true⟩] []) : (noOpenSum f).SoundC Tryd.prog M := by
  refine sumC_sound hf hn hb fun args os v os' ns hs hp => ?_
  simp only [noOpenSum] at hs hp ⊢
  split at hs
  · rename_i K N f1 s1 n c f2 s2 m d X Y
    split at hs
    · rename_i hk
      cases hs
      simp only [Bool.and_eq_true] at hk
      have h1 : rngB K = true := hp (rngB K, true) (List.Mem.head _)
      have h2 : rngB N = true := hp (rngB N, true) (List.Mem.tail _ (List.Mem.head _))
      have h3 : dataB X s1 f1 n c = true := hp (_, true) (List.Mem.tail _ (List.Mem.tail _ (List.Mem.head _)))
      have h4 : dataB Y s2 f2 m d = true := hp (_, true) (List.Mem.tail _ (List.Mem.tail _ (List.Mem.tail _ (List.Mem.head _))))
      have h5 : (lenBad n m || !tagB K N X f1 n Y f2 m) = true := hp (_, true) (List.Mem.tail _ (List.Mem.tail _ (List.Mem.tail _ (List.Mem.tail _ (List.Mem.head _)))))
      have eK := isB_eq hk.1
      have eN := isB_eq hk.2
      have := h (wd K) (wd N) f1 s1 n c f2 s2 m d X Y (by rw [← eK]; exact h1) (by rw [← eN]; exact h2) h3 h4 (by
        rw [← eK, ← eN]
        rcases Bool.or_eq_true_iff.1 h5 with h | h
        · exact .inl h
        · exact .inr (by simpa using h))
      rw [← eK, ← eN] at this
      exact ⟨this, fun _ => rfl⟩
    · cases hs
  · cases hs

theorem lenBad_cases {n m : Nat} (hn : n ≤ 4611686018427387904) : (lenBad n m = true → lO n < 0 ∨ (¬ lO n < 0 ∧ lO n > 65536) ∨ (¬ lO n < 0 ∧ ¬ lO n > 65536 ∧ (m : Int) > 65536)) ∧ (lenBad n m = false → 16 ≤ n ∧ n ≤ 65552 ∧ m ≤ 65536) := by
  have e := lO_eq hn
  unfold lenBad
  constructor
  · intro h
    simp only [Bool.or_eq_true, Nat.blt_eq] at h
    omega
  · intro h
    simp only [Bool.or_eq_false_iff] at h
    have nb : ∀ a b : Nat, Nat.blt a b = false → b ≤ a := fun a b h => by
      rcases Nat.lt_or_ge a b with h2 | h2
      · rw [Nat.blt_eq.mpr h2] at h; cases h
      · exact h2
    exact ⟨nb _ _ h.1, nb _ _ h.2.1, nb _ _ h.2.2⟩

theorem noOpen25 (M : Mem) : (noOpenSum 25).SoundC Tryd.prog M := noOpenSum_sound Tryd.func25 (by kernel_rfl) (by kernel_rfl) fun k nn f1 s1 n c f2 s2 m d X Y hk hnn hd hd2 h => by
  have hn := (dataB_iff.1 hd).2.2.2.1
  cases hl : lenBad n m with
  | true =>
    rcases (lenBad_cases hn).1 hl with h1 | ⟨h1, h2⟩ | ⟨h1, h2, h3⟩
    · exact acalls_of_evFU (ovE_ok _ _) nilC mix Tryd.func25 (hooksOk_nil _) (no25a M k nn f1 s1 n c f2 s2 m d X Y) (held_one (by simpa using h1))
    · exact acalls_of_evFU (ovE_ok _ _) nilC mix Tryd.func25 (hooksOk_nil _) (no25b M k nn f1 s1 n c f2 s2 m d X Y) (held_cons (by simpa using h1) (held_one (by simpa using h2)))
    · exact acalls_of_evFU (ovE_ok _ _) nilC mix Tryd.func25 (hooksOk_nil _) (no25c M k nn f1 s1 n c f2 s2 m d X Y) (held_cons (by simpa using h1) (held_cons (by simpa using h2) (held_one (by simpa using h3))))
  | false =>
    obtain ⟨h1, h2, h3⟩ := (lenBad_cases hn).2 hl
    have ht : tagB (cellsI .u8 32 k) (cellsI .u8 12 nn) X f1 n Y f2 m = false := by
      rcases h with h | h
      · rw [hl] at h; cases h
      · exact h
    exact acalls_of_evFU (ovE_ok _ _) (consC (stream49 M) (consC (tag50 M) nilC)) mix Tryd.func25 (hooksOk_nil _) (r25f M k nn f1 s1 n c f2 s2 m d X Y) (app_held (headO_held hk hnn hd hd2 h1 h2 h3).1 (cmpS_held hd h1 (b := true) ht))

theorem noOpen26 (W : World) : (noOpenSum 26).SoundC Tryd.prog (memL tblCha W) := noOpenSum_sound Tryd.func26 (by kernel_rfl) (by kernel_rfl) fun k nn f1 s1 n c f2 s2 m d X Y hk hnn hd hd2 h => by
  have hn := (dataB_iff.1 hd).2.2.2.1
  cases hl : lenBad n m with
  | true =>
    rcases (lenBad_cases hn).1 hl with h1 | ⟨h1, h2⟩ | ⟨h1, h2, h3⟩
    · exact acalls_of_evFU (ovE_ok _ _) nilC mix Tryd.func26 (hooksOk_nil _) (no26a (memL tblCha W) k nn f1 s1 n c f2 s2 m d X Y) (held_one (by simpa using h1))
    · exact acalls_of_evFU (ovE_ok _ _) nilC mix Tryd.func26 (hooksOk_nil _) (no26b (memL tblCha W) k nn f1 s1 n c f2 s2 m d X Y) (held_cons (by simpa using h1) (held_one (by simpa using h2)))
    · exact acalls_of_evFU (ovE_ok _ _) nilC mix Tryd.func26 (hooksOk_nil _) (no26c (memL tblCha W) k nn f1 s1 n c f2 s2 m d X Y) (held_cons (by simpa using h1) (held_cons (by simpa using h2) (held_one (by simpa using h3))))
  | false =>
    obtain ⟨h1, h2, h3⟩ := (lenBad_cases hn).2 hl
    have ht : tagB (cellsI .u8 32 k) (cellsI .u8 12 nn) X f1 n Y f2 m = false := by
      rcases h with h | h
      · rw [hl] at h; cases h
      · exact h
    exact acalls_of_evFU (ovE_ok _ _) (consC (stream51 W) (consC (tag52 W) nilC)) mix Tryd.func26 (hooksOk_nil _) (r26f (memL tblCha W) k nn f1 s1 n c f2 s2 m d X Y) (app_held (headO_held hk hnn hd hd2 h1 h2 h3).1 (cmpI_held hd h1 (b := true) ht))


end Go.Proofs.YtgnbmjhljlbkhaaDoor
