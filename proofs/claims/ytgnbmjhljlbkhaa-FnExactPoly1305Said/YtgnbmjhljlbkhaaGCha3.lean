/- A block of the stream and a key made from a key, as numbers; contracts of the rounds and of the functions that give them.
   Conditions: the evaluations, which are named. -/
import Derived.Test.YtgnbmjhljlbkhaaGCha2
set_option linter.unusedVariables false
namespace Go.Num
open Go.Ab

/-- The words behind the rounds. -/
def rF (x : Nat → Int) (i : Nat) : Int := wd (roundsC (cellsI .u32 16 x)) i

theorem roundsC_eq {cells : List Value} (h : isW cells = true) : roundsC cells = cellsI .u32 16 (rF (wd cells)) := by
  have e : roundsC cells = cellsI .u32 16 (wd (roundsC cells)) := by
    have h2 : ∃ x, roundsC cells = cellsI .u32 16 x := ⟨_, rfl⟩
    obtain ⟨x, hx⟩ := h2
    rw [hx]
    exact cellsI_congr fun i hi => (wd_cellsI hi).symm
  rw [e]
  refine cellsI_congr fun i hi => ?_
  unfold rF
  rw [← isW_iff h]

def roundsSum (f : FuncId) : Sum :=
  { f := f, ro := false
    S := fun args os => match args, os with
      | [.pointer (some ⟨0, 0, some 16⟩)], [⟨cells, g, e, true⟩] =>
        if isW cells then some (.tuple ⟨[]⟩, [⟨cellsI .u32 16 (rF (wd cells)), g, e, true⟩], []) else none
      | _, _ => none }

def roundsSumV (f : FuncId) : Sum :=
  { f := f, ro := true
    S := fun args os => match args, os with
      | [.agg ⟨cells⟩], [] => if isW cells then some (.agg ⟨cellsI .u32 16 (rF (wd cells))⟩, [], []) else none
      | _, _ => none }

theorem roundsSum_sound {P : Program} {M : Mem} {f : FuncId} {fn : Func} (hf : P.funcs[f]? = some fn) (hn : (fn.name == "runtime.NumGoroutine") = false) (hb : fn.body.isSome = true)
    (h : ∀ (x : Nat → Int) (g : Bool) (e : Nat), ACalls P M f [.pointer (some ⟨0, 0, some 16⟩)] [⟨cellsI .u32 16 x, g, e, true⟩] (.tuple ⟨[]⟩) [⟨roundsC (cellsI .u32 16 x), g, e, true⟩] []) : (roundsSum f).SoundC P M := by
  refine sumC_sound hf hn hb fun args os v os' ns hs hp => ?_
  simp only [roundsSum] at hs hp ⊢
  split at hs
  · rename_i cells g e
    split at hs
    · rename_i hk
      cases hs
      refine ⟨?_, fun h => by cases h⟩
      have := h (wd cells) g e
      rw [← isW_iff hk, roundsC_eq hk] at this
      exact this
    · cases hs
  · cases hs

theorem roundsSumV_sound {P : Program} {M : Mem} {f : FuncId} {fn : Func} (hf : P.funcs[f]? = some fn) (hn : (fn.name == "runtime.NumGoroutine") = false) (hb : fn.body.isSome = true)
    (h : ∀ (x : Nat → Int), ACalls P M f [.agg ⟨cellsI .u32 16 x⟩] [] (.agg ⟨roundsC (cellsI .u32 16 x)⟩) [] []) : (roundsSumV f).SoundC P M := by
  refine sumC_sound hf hn hb fun args os v os' ns hs hp => ?_
  simp only [roundsSumV] at hs hp ⊢
  split at hs
  · rename_i cells
    split at hs
    · rename_i hk
      cases hs
      refine ⟨?_, fun _ => rfl⟩
      have := h (wd cells)
      rw [← isW_iff hk, roundsC_eq hk] at this
      exact this
    · cases hs
  · cases hs

/-- The words ahead of the rounds, the bytes of the key read by W. -/
def startW (W : Int → Int → Int → Int → Int) (k : Nat → Int) (a b c d : Int) : List Value :=
  [.int .u32 1634760805, .int .u32 857760878, .int .u32 2036477234, .int .u32 1797285236,
   .int .u32 (W (k 0) (k 1) (k 2) (k 3)), .int .u32 (W (k 4) (k 5) (k 6) (k 7)), .int .u32 (W (k 8) (k 9) (k 10) (k 11)), .int .u32 (W (k 12) (k 13) (k 14) (k 15)),
   .int .u32 (W (k 16) (k 17) (k 18) (k 19)), .int .u32 (W (k 20) (k 21) (k 22) (k 23)), .int .u32 (W (k 24) (k 25) (k 26) (k 27)), .int .u32 (W (k 28) (k 29) (k 30) (k 31)),
   .int .u32 a, .int .u32 b, .int .u32 c, .int .u32 d]

/-- Byte r of a word, as the program lays it. -/
def byteL (r : Nat) (v : Int) : Int := IntKind.wrap .u8 (v.fdiv (2 ^ (8 * r)))
/-- And as the specification does. -/
def byteS : Nat → Int → Int
  | 0, v => IntKind.wrap .u8 (v.tmod 256)
  | r + 1, v => byteS r (IntKind.wrap .u32 (v.tdiv 256))

theorem byteS_eq {v : Int} (h : IntKind.u32.has v) : byteS 0 v = byteL 0 v ∧ byteS 1 v = byteL 1 v ∧ byteS 2 v = byteL 2 v ∧ byteS 3 v = byteL 3 v := by
  obtain ⟨h1, h2⟩ := has_u32 h
  simp only [byteS, byteL, wrap_u8, wrap_u32]
  rw [Int.tdiv_eq_ediv_of_nonneg h1, Int.tmod_eq_emod_of_nonneg h1, Int.tdiv_eq_ediv_of_nonneg (a := v / 256 % 4294967296) (by omega), Int.tmod_eq_emod_of_nonneg (a := v / 256 % 4294967296) (by omega),
    Int.tdiv_eq_ediv_of_nonneg (a := v / 256 % 4294967296 / 256 % 4294967296) (by omega), Int.tmod_eq_emod_of_nonneg (a := v / 256 % 4294967296 / 256 % 4294967296) (by omega), Int.tmod_eq_emod_of_nonneg (a := v / 256 % 4294967296 / 256 % 4294967296 / 256 % 4294967296) (by omega)]
  simp only [Nat.reduceMul, Int.fdiv_eq_ediv_of_nonneg _ (show (0 : Int) ≤ 2 ^ 0 by decide), Int.fdiv_eq_ediv_of_nonneg _ (show (0 : Int) ≤ 2 ^ 8 by decide), Int.fdiv_eq_ediv_of_nonneg _ (show (0 : Int) ≤ 2 ^ 16 by decide), Int.fdiv_eq_ediv_of_nonneg _ (show (0 : Int) ≤ 2 ^ 24 by decide)]
  refine ⟨?_, ?_, ?_, ?_⟩ <;> omega

theorem byteL_range (r : Nat) (v : Int) : IntKind.u8.has (byteL r v) := by
  rw [byteL, wrap_u8]; show 0 ≤ _ ∧ _ ≤ (255 : Int); omega

/-- A block out of the words ahead of the rounds. -/
def blockW (B : Nat → Int → Int) (s : List Value) : List Value := (List.range 64).map fun j => .int .u8 (B (j % 4) (add32 (rF (wd s) (j / 4)) (wd s (j / 4))))
/-- A key out of the words ahead of the rounds. -/
def keyW (B : Nat → Int → Int) (s : List Value) : List Value := (List.range 32).map fun j => .int .u8 (B (j % 4) (rF (wd s) (if j < 16 then j / 4 else 8 + j / 4)))

theorem startW_congr {k : Nat → Int} (hk : ∀ i, IntKind.u8.has (k i)) {a b c d : Int} : startW wordI k a b c d = startW word k a b c d ∧ startW wordS k a b c d = startW word k a b c d := by
  constructor
  · simp only [startW, wordI_eq (hk _) (hk _) (hk _) (hk _)]
  · simp only [startW, wordS_eq (hk _) (hk _) (hk _) (hk _)]

theorem byteS_byteL {v : Int} (h : IntKind.u32.has v) {r : Nat} (hr : r < 4) : byteS r v = byteL r v := by
  obtain ⟨h0, h1, h2, h3⟩ := byteS_eq h
  rcases (by omega : r = 0 ∨ r = 1 ∨ r = 2 ∨ r = 3) with rfl | rfl | rfl | rfl <;> assumption

theorem blockW_eq (s : List Value) : blockW byteS s = blockW byteL s := by
  unfold blockW
  apply List.map_congr_left
  intro j _
  rw [byteS_byteL (add32_range _ _) (by omega)]

theorem upd_range {k : IntKind} {x : Nat → Int} {a : Nat} {v : Int} (hv : k.has v) {i : Nat} (h : i ≠ a → k.has (x i)) : k.has (upd x a v i) := by
  by_cases hi : i = a
  · subst hi; rw [upd_self]; exact hv
  · rw [upd_ne hi]; exact h hi

theorem rot32_range {k : Nat} (hk : Turns k) {x : Int} (h : IntKind.u32.has x) : IntKind.u32.has (rot32 k x) := by
  obtain ⟨h1, h2⟩ := has_u32 h
  show 0 ≤ _ ∧ _ ≤ (4294967295 : Int)
  unfold rot32
  rcases hk with rfl | rfl | rfl | rfl <;> simp only [Nat.reduceSub, Int.reducePow] <;> omega

theorem qF_range {x : Nat → Int} {a b c d : Nat} (h : ∀ i, i < 16 → IntKind.u32.has (x i)) : ∀ i, i < 16 → IntKind.u32.has (qF x a b c d i) := fun i hi => by
  unfold qF
  refine upd_range (rot32_range (by simp [Turns]) (xor32_range _ _)) fun _ => upd_range (add32_range _ _) fun _ => upd_range (rot32_range (by simp [Turns]) (xor32_range _ _)) fun _ => upd_range (add32_range _ _) fun _ =>
    upd_range (rot32_range (by simp [Turns]) (xor32_range _ _)) fun _ => upd_range (add32_range _ _) fun _ => upd_range (rot32_range (by simp [Turns]) (xor32_range _ _)) fun _ => upd_range (add32_range _ _) fun _ => h i hi

theorem fold_range : ∀ (l : List (Nat × Nat × Nat × Nat)) (cells : List Value), (∀ i, i < 16 → IntKind.u32.has (wd cells i)) → ∀ i, i < 16 → IntKind.u32.has (wd (l.foldl qC cells) i) := by
  intro l
  induction l with
  | nil => intro cells h; exact h
  | cons q l ih =>
    intro cells h
    refine ih (qC cells q) fun i hi => ?_
    unfold qC
    rw [wd_cellsI hi]
    exact qF_range h i hi

theorem rF_range {x : Nat → Int} (h : ∀ i, i < 16 → IntKind.u32.has (x i)) : ∀ i, i < 16 → IntKind.u32.has (rF x i) :=
  fold_range _ _ fun i hi => by rw [wd_cellsI hi]; exact h i hi

theorem word_range {b0 b1 b2 b3 : Int} (h0 : IntKind.u8.has b0) (h1 : IntKind.u8.has b1) (h2 : IntKind.u8.has b2) (h3 : IntKind.u8.has b3) : IntKind.u32.has (word b0 b1 b2 b3) := by
  have := has_u8 h0; have := has_u8 h1; have := has_u8 h2; have := has_u8 h3
  show 0 ≤ _ ∧ _ ≤ (4294967295 : Int)
  unfold word
  omega

theorem start_range {k : Nat → Int} (hk : ∀ i, IntKind.u8.has (k i)) {a b c d : Int} (ha : IntKind.u32.has a) (hb : IntKind.u32.has b) (hc : IntKind.u32.has c) (hd : IntKind.u32.has d) : ∀ i, i < 16 → IntKind.u32.has (wd (startW word k a b c d) i) := by
  have w : ∀ p q r s, IntKind.u32.has (word (k p) (k q) (k r) (k s)) := fun p q r s => word_range (hk _) (hk _) (hk _) (hk _)
  intro i hi
  rcases (by omega : i = 0 ∨ i = 1 ∨ i = 2 ∨ i = 3 ∨ i = 4 ∨ i = 5 ∨ i = 6 ∨ i = 7 ∨ i = 8 ∨ i = 9 ∨ i = 10 ∨ i = 11 ∨ i = 12 ∨ i = 13 ∨ i = 14 ∨ i = 15) with rfl | rfl | rfl | rfl | rfl | rfl | rfl | rfl | rfl | rfl | rfl | rfl | rfl | rfl | rfl | rfl
  · exact (show IntKind.u32.has 1634760805 from ⟨by decide, by decide⟩)
  · exact (show IntKind.u32.has 857760878 from ⟨by decide, by decide⟩)
  · exact (show IntKind.u32.has 2036477234 from ⟨by decide, by decide⟩)
  · exact (show IntKind.u32.has 1797285236 from ⟨by decide, by decide⟩)
  all_goals first | exact w _ _ _ _ | assumption

theorem keyW_eq {s : List Value} (h : ∀ i, i < 16 → IntKind.u32.has (wd s i)) : keyW byteS s = keyW byteL s := by
  unfold keyW
  apply List.map_congr_left
  intro j hj
  have hj := List.mem_range.1 hj
  rw [byteS_byteL (rF_range h _ (by split <;> omega)) (by omega)]

/-- The words ahead of a block. -/
def bStart (W : Int → Int → Int → Int → Int) (k : Nat → Int) (c : Int) (n : Nat → Int) : List Value := startW W k c (W (n 0) (n 1) (n 2) (n 3)) (W (n 4) (n 5) (n 6) (n 7)) (W (n 8) (n 9) (n 10) (n 11))
def hStart (W : Int → Int → Int → Int → Int) (k n : Nat → Int) : List Value := startW W k (W (n 0) (n 1) (n 2) (n 3)) (W (n 4) (n 5) (n 6) (n 7)) (W (n 8) (n 9) (n 10) (n 11)) (W (n 12) (n 13) (n 14) (n 15))

theorem bStart_eq {k n : Nat → Int} (hk : ∀ i, IntKind.u8.has (k i)) (hn : ∀ i, IntKind.u8.has (n i)) (c : Int) : bStart wordI k c n = bStart word k c n ∧ bStart wordS k c n = bStart word k c n := by
  unfold bStart
  simp only [startW_congr hk, wordI_eq (hn _) (hn _) (hn _) (hn _), wordS_eq (hn _) (hn _) (hn _) (hn _), and_self]
theorem hStart_eq {k n : Nat → Int} (hk : ∀ i, IntKind.u8.has (k i)) (hn : ∀ i, IntKind.u8.has (n i)) : hStart wordI k n = hStart word k n ∧ hStart wordS k n = hStart word k n := by
  unfold hStart
  simp only [startW_congr hk, wordI_eq (hn _) (hn _) (hn _) (hn _), wordS_eq (hn _) (hn _) (hn _) (hn _), and_self]

/-- A block. -/
def blockF (k : Nat → Int) (c : Int) (n : Nat → Int) : List Value := blockW byteL (bStart word k c n)
/-- A key. -/
def keyF (k n : Nat → Int) : List Value := keyW byteL (hStart word k n)

end Go.Num
