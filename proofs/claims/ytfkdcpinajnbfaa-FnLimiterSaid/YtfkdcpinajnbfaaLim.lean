/- Limiters compared, marked and asked: known functions.
   Conditions: none. -/
import Derived.Test.YtfkdcpinajnbfaaArg
import Derived.Test.YtfkdcpinajnbfaaAllowZ
open Go.Ab
set_option linter.unusedVariables false
set_option linter.unusedSimpArgs false
namespace Go.Proofs.Ytfkdcpinajnbfaa
set_option maxRecDepth 100000

/-- A check of a fact that nobody decides. -/
noncomputable def fact (p : Prop) : Bool := @decide p (Classical.propDecidable p)
theorem fact_iff {p : Prop} : fact p = true ↔ p := by
  unfold fact
  exact @decide_eq_true_iff p (Classical.propDecidable p)

/-- The buckets that lie in these cells. -/
def lsR (R : List Value) (n : Nat) : List Bk := (List.range n).map fun i => bkAt R (0 + i * 11)
theorem lsR_rows {L : List Bk} {n : Nat} (h : n = L.length) : lsR (rowsL L) n = L := by
  subst h
  apply List.ext_getElem?
  intro i
  unfold lsR
  by_cases hi : i < L.length
  · have hb : L[i]? = some L[i] := List.getElem?_eq_getElem hi
    have := bkAt_row hb
    rw [Int.toNat_natCast] at this
    rw [hb]
    simp [hi]
    simpa using this
  · rw [List.getElem?_eq_none (by simpa using hi), List.getElem?_eq_none (by omega)]

/-- Cells that hold n buckets. -/
def RowF (R : List Value) (m n : Nat) : Prop := m = n * 11 ∧ n ≤ 4611686018427387904 ∧ ∃ L, R = rowsL L ∧ n = L.length

noncomputable def eqBkS : Sum :=
  { f := 23, ro := true
    S := fun args os => match args, os with
      | [.slice (some ⟨0, 0, some m⟩) n c, .slice (some ⟨1, 0, some m'⟩) n' c'], [⟨R, gr, es, true⟩, ⟨R', gr', es', true⟩] => some (.bool (decide (lsR R n = lsR R' n')), [⟨R, gr, es, true⟩, ⟨R', gr', es', true⟩], [])
      | [.slice none 0 0, .slice none 0 0], [] => some (.bool true, [], [])
      | _, _ => none
    C := fun args os => match args, os with
      | [.slice (some ⟨0, 0, some m⟩) n c, .slice (some ⟨1, 0, some m'⟩) n' c'], [⟨R, gr, es, true⟩, ⟨R', gr', es', true⟩] => [(fact (RowF R m n), true), (fact (RowF R' m' n'), true)]
      | _, _ => [] }
theorem eq23z (M : Mem) : evFU Try.prog M (ovS shT Try.prog M) [] [] [] [] 300 Try.f23 [.slice none 0 0, .slice none 0 0] [] [] = some ((.bool true, [], []), []) := by kernel_rfl
theorem eqBkSs (M : Mem) : eqBkS.SoundC Try.prog M := by
  refine sumC_sound Try.func23 (by kernel_rfl) (by kernel_rfl) fun args os v os' ns hs hp => ?_
  simp only [eqBkS] at hs hp
  split at hs
  · cases hs
    obtain ⟨rfl, h1, L, rfl, hn⟩ := fact_iff.1 (hp _ (List.Mem.head _))
    obtain ⟨rfl, h2, L', rfl, hn'⟩ := fact_iff.1 (hp _ (List.Mem.tail _ (List.Mem.head _)))
    subst hn hn'
    rw [lsR_rows rfl, lsR_rows rfl]
    exact ⟨eqBucketS h1, fun _ => rfl⟩
  · cases hs
    exact ⟨acalls_of_evFU (ovS_ok shT _ _) nilC mix Try.func23 (hooksOk_nil _) (eq23z M) held_nil, fun _ => rfl⟩
  · cases hs

noncomputable def mkBkS : Sum :=
  { f := 24, ro := false
    S := fun args os => match args, os with
      | [.slice (some ⟨0, 0, some m⟩) n c, .int .i64 k], [⟨R, gr, es, true⟩] => some (.int .i64 (kAt k n), [⟨rowsL (markLs k n), gr, es, true⟩], [])
      | [.slice none 0 0, .int .i64 k], [] => some (.int .i64 k, [], [])
      | _, _ => none
    C := fun args os => match args, os with
      | [.slice (some ⟨0, 0, some m⟩) n c, .int .i64 k], [⟨R, gr, es, true⟩] => [(fact (RowF R m n), true)]
      | _, _ => [] }
theorem mk24z (M : Mem) (k : Int) : evFU Try.prog M (ovS shT Try.prog M) [] [] [] [] 300 Try.f24 [.slice none 0 0, .int .i64 k] [] [] = some ((.int .i64 k, [], []), []) := by kernel_rfl
theorem mkBkSs (M : Mem) : mkBkS.SoundC Try.prog M := by
  refine sumC_sound Try.func24 (by kernel_rfl) (by kernel_rfl) fun args os v os' ns hs hp => ?_
  simp only [mkBkS] at hs hp
  split at hs
  · cases hs
    obtain ⟨rfl, h1, L, rfl, hn⟩ := fact_iff.1 (hp _ (List.Mem.head _))
    subst hn
    exact ⟨markBucketS h1, fun h => by cases h⟩
  · cases hs
    exact ⟨acalls_of_evFU (ovS_ok shT _ _) nilC mix Try.func24 (hooksOk_nil _) (mk24z M _) held_nil, fun h => by cases h⟩
  · cases hs

noncomputable def hdBkS : Sum :=
  { f := 25, ro := true
    S := fun args os => match args, os with
      | [.slice (some ⟨0, 0, some m⟩) n c, .int .i64 k], [⟨R, gr, es, true⟩] => some (.int .i64 (kAt k n), [⟨R, gr, es, true⟩], [])
      | [.slice none 0 0, .int .i64 k], [] => some (.int .i64 k, [], [])
      | _, _ => none
    C := fun args os => match args, os with
      | [.slice (some ⟨0, 0, some m⟩) n c, .int .i64 k], [⟨R, gr, es, true⟩] => [(fact (m = n * 11 ∧ n ≤ 4611686018427387904 ∧ R = rowsL (markLs k n)), true)]
      | _, _ => [] }
theorem hd25z (M : Mem) (k : Int) : evFU Try.prog M (ovS shT Try.prog M) [] [] [] [] 300 Try.f25 [.slice none 0 0, .int .i64 k] [] [] = some ((.int .i64 k, [], []), []) := by kernel_rfl
theorem hdBkSs (M : Mem) : hdBkS.SoundC Try.prog M := by
  refine sumC_sound Try.func25 (by kernel_rfl) (by kernel_rfl) fun args os v os' ns hs hp => ?_
  simp only [hdBkS] at hs hp
  split at hs
  · cases hs
    obtain ⟨rfl, h1, rfl⟩ := fact_iff.1 (hp _ (List.Mem.head _))
    exact ⟨heldBucketS h1, fun _ => rfl⟩
  · cases hs
    exact ⟨acalls_of_evFU (ovS_ok shT _ _) nilC mix Try.func25 (hooksOk_nil _) (hd25z M _) held_nil, fun _ => rfl⟩
  · cases hs

/-! ### Whole limiters -/
noncomputable def eqLS : Sum :=
  { f := 10, ro := true
    S := fun args os => match args, os with
      | [.agg ⟨[.int .i64 a, .int .i64 s, .slice (some ⟨0, 0, some m⟩) n c]⟩, .agg ⟨[.int .i64 a', .int .i64 s', .slice (some ⟨1, 0, some m'⟩) n' c']⟩], [⟨R, gr, es, true⟩, ⟨R', gr', es', true⟩] => some (.bool (decide (a = a' ∧ s = s' ∧ lsR R n = lsR R' n')), [⟨R, gr, es, true⟩, ⟨R', gr', es', true⟩], [])
      | [.agg ⟨[.int .i64 0, .int .i64 0, .slice none 0 0]⟩, .agg ⟨[.int .i64 0, .int .i64 0, .slice none 0 0]⟩], [] => some (.bool true, [], [])
      | _, _ => none
    C := fun args os => match args, os with
      | [.agg ⟨[.int .i64 a, .int .i64 s, .slice (some ⟨0, 0, some m⟩) n c]⟩, .agg ⟨[.int .i64 a', .int .i64 s', .slice (some ⟨1, 0, some m'⟩) n' c']⟩], [⟨R, gr, es, true⟩, ⟨R', gr', es', true⟩] => [(fact (RowF R m n), true), (fact (RowF R' m' n'), true)]
      | _, _ => [] }
section
variable (M : Mem) (a s a' s' : Int) (m n c m' n' c' : Nat) (R R' : List Value) (gr gr' : Bool) (es es' : Nat) (k : Int)
theorem l10a : evFU Try.prog M (ovS shT Try.prog M) [] [] [eqBkS] [9, 14, 19] 300 Try.f10 [.agg ⟨[.int .i64 a, .int .i64 s, .slice (some ⟨0, 0, some m⟩) n c]⟩, .agg ⟨[.int .i64 a', .int .i64 s', .slice (some ⟨1, 0, some m'⟩) n' c']⟩] [⟨R, gr, es, true⟩, ⟨R', gr', es', true⟩] [true]
   = some ((.bool false, [⟨R, gr, es, true⟩, ⟨R', gr', es', true⟩], []), [(a != a', true)]) := by kernel_rfl
theorem l10b : evFU Try.prog M (ovS shT Try.prog M) [] [] [eqBkS] [9, 14, 19] 300 Try.f10 [.agg ⟨[.int .i64 a, .int .i64 s, .slice (some ⟨0, 0, some m⟩) n c]⟩, .agg ⟨[.int .i64 a', .int .i64 s', .slice (some ⟨1, 0, some m'⟩) n' c']⟩] [⟨R, gr, es, true⟩, ⟨R', gr', es', true⟩] [false, true]
   = some ((.bool false, [⟨R, gr, es, true⟩, ⟨R', gr', es', true⟩], []), [(a != a', false), (s != s', true)]) := by kernel_rfl
theorem l10c : evFU Try.prog M (ovS shT Try.prog M) [] [] [eqBkS] [9, 14, 19] 300 Try.f10 [.agg ⟨[.int .i64 a, .int .i64 s, .slice (some ⟨0, 0, some m⟩) n c]⟩, .agg ⟨[.int .i64 a', .int .i64 s', .slice (some ⟨1, 0, some m'⟩) n' c']⟩] [⟨R, gr, es, true⟩, ⟨R', gr', es', true⟩] [false, false, false]
   = some ((.bool false, [⟨R, gr, es, true⟩, ⟨R', gr', es', true⟩], []), [(a != a', false), (s != s', false), (fact (RowF R m n), true), (fact (RowF R' m' n'), true), (decide (lsR R n = lsR R' n'), false)]) := by kernel_rfl
theorem l10d : evFU Try.prog M (ovS shT Try.prog M) [] [] [eqBkS] [9, 14, 19] 300 Try.f10 [.agg ⟨[.int .i64 a, .int .i64 s, .slice (some ⟨0, 0, some m⟩) n c]⟩, .agg ⟨[.int .i64 a', .int .i64 s', .slice (some ⟨1, 0, some m'⟩) n' c']⟩] [⟨R, gr, es, true⟩, ⟨R', gr', es', true⟩] [false, false, true]
   = some ((.bool true, [⟨R, gr, es, true⟩, ⟨R', gr', es', true⟩], []), [(a != a', false), (s != s', false), (fact (RowF R m n), true), (fact (RowF R' m' n'), true), (decide (lsR R n = lsR R' n'), true)]) := by kernel_rfl
theorem l10z : evFU Try.prog M (ovS shT Try.prog M) [] [] [eqBkS] [] 300 Try.f10 [.agg ⟨[.int .i64 0, .int .i64 0, .slice none 0 0]⟩, .agg ⟨[.int .i64 0, .int .i64 0, .slice none 0 0]⟩] [] []
   = some ((.bool true, [], []), []) := by kernel_rfl
theorem l11s : evFU Try.prog M (ovS shT Try.prog M) [] [] [mkBkS] [] 300 Try.f11 [.agg ⟨[.int .i64 a, .int .i64 s, .slice (some ⟨0, 0, some m⟩) n c]⟩, .int .i64 k] [⟨R, gr, es, true⟩] []
   = some ((.int .i64 (kAt k n), [⟨rowsL (markLs k n), gr, es, true⟩], []), [(fact (RowF R m n), true)]) := by kernel_rfl
theorem l11z : evFU Try.prog M (ovS shT Try.prog M) [] [] [mkBkS] [] 300 Try.f11 [.agg ⟨[.int .i64 a, .int .i64 s, .slice none 0 0]⟩, .int .i64 k] [] []
   = some ((.int .i64 k, [], []), []) := by kernel_rfl
theorem l12s : evFU Try.prog M (ovS shT Try.prog M) [] [] [hdBkS] [10] 300 Try.f12 [.agg ⟨[.int .i64 a, .int .i64 s, .slice (some ⟨0, 0, some m⟩) n c]⟩, .int .i64 k] [⟨R, gr, es, true⟩] [false]
   = some ((.int .i64 (kAt k n), [⟨R, gr, es, true⟩], []), [(fact (m = n * 11 ∧ n ≤ 4611686018427387904 ∧ R = rowsL (markLs k n)), true), (decide (kAt k n < 0), false)]) := by kernel_rfl
theorem l12z : evFU Try.prog M (ovS shT Try.prog M) [] [] [hdBkS] [] 300 Try.f12 [.agg ⟨[.int .i64 a, .int .i64 s, .slice none 0 0]⟩, .int .i64 1] [] []
   = some ((.int .i64 1, [], []), []) := by kernel_rfl
end
theorem eqLSs (M : Mem) : eqLS.SoundC Try.prog M := by
  refine sumC_sound Try.func10 (by kernel_rfl) (by kernel_rfl) fun args os v os' ns hs hp => ?_
  simp only [eqLS] at hs hp
  have hl : ∀ s ∈ [eqBkS], s.SoundC Try.prog M := consC (eqBkSs M) nilC
  split at hs
  · rename_i a s m n c a' s' m' n' c' R gr es R' gr' es'
    cases hs
    refine ⟨?_, fun _ => rfl⟩
    have p1 := hp _ (List.Mem.head _)
    have p2 := hp _ (List.Mem.tail _ (List.Mem.head _))
    by_cases h1 : a = a'
    · by_cases h2 : s = s'
      · by_cases h3 : lsR R n = lsR R' n'
        · rw [decide_eq_true (show a = a' ∧ s = s' ∧ lsR R n = lsR R' n' from ⟨h1, h2, h3⟩)]
          exact acalls_of_evFU (ovS_ok shT _ _) hl mix Try.func10 (hooksOk_nil _) (l10d M a s a' s' m n c m' n' c' R R' gr gr' es es') (held_cons (by simp [h1]) (held_cons (by simp [h2]) (held_cons p1 (held_cons p2 (held_one (decide_eq_true h3))))))
        · rw [decide_eq_false (show ¬ (a = a' ∧ s = s' ∧ lsR R n = lsR R' n') from fun h => h3 h.2.2)]
          exact acalls_of_evFU (ovS_ok shT _ _) hl mix Try.func10 (hooksOk_nil _) (l10c M a s a' s' m n c m' n' c' R R' gr gr' es es') (held_cons (by simp [h1]) (held_cons (by simp [h2]) (held_cons p1 (held_cons p2 (held_one (decide_eq_false h3))))))
      · rw [decide_eq_false (show ¬ (a = a' ∧ s = s' ∧ lsR R n = lsR R' n') from fun h => h2 h.2.1)]
        exact acalls_of_evFU (ovS_ok shT _ _) hl mix Try.func10 (hooksOk_nil _) (l10b M a s a' s' m n c m' n' c' R R' gr gr' es es') (held_cons (by simp [h1]) (held_one (by simp [h2])))
    · rw [decide_eq_false (show ¬ (a = a' ∧ s = s' ∧ lsR R n = lsR R' n') from fun h => h1 h.1)]
      exact acalls_of_evFU (ovS_ok shT _ _) hl mix Try.func10 (hooksOk_nil _) (l10a M a s a' s' m n c m' n' c' R R' gr gr' es es') (held_one (by simp [h1]))
  · cases hs
    exact ⟨acalls_of_evFU (ovS_ok shT _ _) hl mix Try.func10 (hooksOk_nil _) (l10z M) held_nil, fun _ => rfl⟩
  · cases hs

noncomputable def mkLS : Sum :=
  { f := 11, ro := false
    S := fun args os => match args, os with
      | [.agg ⟨[.int .i64 a, .int .i64 s, .slice (some ⟨0, 0, some m⟩) n c]⟩, .int .i64 k], [⟨R, gr, es, true⟩] => some (.int .i64 (kAt k n), [⟨rowsL (markLs k n), gr, es, true⟩], [])
      | [.agg ⟨[.int .i64 a, .int .i64 s, .slice none 0 0]⟩, .int .i64 k], [] => some (.int .i64 k, [], [])
      | _, _ => none
    C := fun args os => match args, os with
      | [.agg ⟨[.int .i64 a, .int .i64 s, .slice (some ⟨0, 0, some m⟩) n c]⟩, .int .i64 k], [⟨R, gr, es, true⟩] => [(fact (RowF R m n), true)]
      | _, _ => [] }
theorem mkLSs (M : Mem) : mkLS.SoundC Try.prog M := by
  refine sumC_sound Try.func11 (by kernel_rfl) (by kernel_rfl) fun args os v os' ns hs hp => ?_
  simp only [mkLS] at hs hp
  have hl : ∀ s ∈ [mkBkS], s.SoundC Try.prog M := consC (mkBkSs M) nilC
  split at hs
  · cases hs
    exact ⟨acalls_of_evFU (ovS_ok shT _ _) hl mix Try.func11 (hooksOk_nil _) (l11s M _ _ _ _ _ _ _ _ _) (held_one (hp _ (List.Mem.head _))), fun h => by cases h⟩
  · cases hs
    exact ⟨acalls_of_evFU (ovS_ok shT _ _) hl mix Try.func11 (hooksOk_nil _) (l11z M _ _ _) held_nil, fun h => by cases h⟩
  · cases hs

noncomputable def hdLS : Sum :=
  { f := 12, ro := true
    S := fun args os => match args, os with
      | [.agg ⟨[.int .i64 a, .int .i64 s, .slice (some ⟨0, 0, some m⟩) n c]⟩, .int .i64 k], [⟨R, gr, es, true⟩] => some (.int .i64 (kAt k n), [⟨R, gr, es, true⟩], [])
      | [.agg ⟨[.int .i64 a, .int .i64 s, .slice none 0 0]⟩, .int .i64 1], [] => some (.int .i64 1, [], [])
      | _, _ => none
    C := fun args os => match args, os with
      | [.agg ⟨[.int .i64 a, .int .i64 s, .slice (some ⟨0, 0, some m⟩) n c]⟩, .int .i64 k], [⟨R, gr, es, true⟩] => [(fact (m = n * 11 ∧ n ≤ 4611686018427387904 ∧ R = rowsL (markLs k n)), true), (decide (kAt k n < 0), false)]
      | _, _ => [] }
theorem hdLSs (M : Mem) : hdLS.SoundC Try.prog M := by
  refine sumC_sound Try.func12 (by kernel_rfl) (by kernel_rfl) fun args os v os' ns hs hp => ?_
  simp only [hdLS] at hs hp
  have hl : ∀ s ∈ [hdBkS], s.SoundC Try.prog M := consC (hdBkSs M) nilC
  split at hs
  · cases hs
    exact ⟨acalls_of_evFU (ovS_ok shT _ _) hl mix Try.func12 (hooksOk_nil _) (l12s M _ _ _ _ _ _ _ _ _) (held_cons (hp _ (List.Mem.head _)) (held_one (hp _ (List.Mem.tail _ (List.Mem.head _))))), fun _ => rfl⟩
  · cases hs
    exact ⟨acalls_of_evFU (ovS_ok shT _ _) hl mix Try.func12 (hooksOk_nil _) (l12z M _ _) held_nil, fun _ => rfl⟩
  · cases hs

/-! ### Allow -/
/-- What both answer on a valid limiter, and on another. -/
def okV (most sw now : Int) (i n : Nat) (b : Bool) : Value := .tuple #[.agg #[.int .i64 most, .int .i64 (swB sw now), .slice (some ⟨i, 0, some (n * 11)⟩) n n], .bool b]
def noV : Value := .tuple #[.agg #[.int .i64 0, .int .i64 0, .slice none 0 0], .bool false]
def alR (most sw now : Int) (key : Key) (R : List Value) (n : Nat) : List Bk := (allowL most sw now key (lsR R n)).2
def alB (most sw now : Int) (key : Key) (R : List Value) (n : Nat) : Bool := (allowL most sw now key (lsR R n)).1
def AllowF (most sw now : Int) (key : Key) (R : List Value) (m n : Nat) (want : Bool) : Prop :=
  m = n * 11 ∧ now ≤ 9223372036854775807 ∧ KeyOk key ∧ ∃ L, R = rowsL L ∧ n = L.length ∧ (∀ b ∈ L, KeyOk b.k) ∧ (ValidL most sw now L ↔ want = true)

noncomputable def allowSum (f : FuncId) (want : Bool) : Sum :=
  { f := f, ro := true
    S := fun args os => match args, os with
      | [.agg ⟨[.int .i64 most, .int .i64 sw, .slice (some ⟨0, 0, some m⟩) n c]⟩, .agg ⟨[.int .u8 a0, .int .u8 a1, .int .u8 a2, .int .u8 a3, .int .u8 a4, .int .u8 a5, .int .u8 a6, .int .u8 a7, .int .u8 a8]⟩, .int .i64 now], [⟨R, gr, es, true⟩] =>
        match want with
        | true => some (okV most sw now 1 (alR most sw now ⟨a0, a1, a2, a3, a4, a5, a6, a7, a8⟩ R n).length (alB most sw now ⟨a0, a1, a2, a3, a4, a5, a6, a7, a8⟩ R n), [⟨R, gr, es, true⟩], [⟨rowsL (alR most sw now ⟨a0, a1, a2, a3, a4, a5, a6, a7, a8⟩ R n), true, 11, true⟩])
        | false => some (noV, [⟨R, gr, es, true⟩], [])
      | _, _ => none
    C := fun args os => match args, os with
      | [.agg ⟨[.int .i64 most, .int .i64 sw, .slice (some ⟨0, 0, some m⟩) n c]⟩, .agg ⟨[.int .u8 a0, .int .u8 a1, .int .u8 a2, .int .u8 a3, .int .u8 a4, .int .u8 a5, .int .u8 a6, .int .u8 a7, .int .u8 a8]⟩, .int .i64 now], [⟨R, gr, es, true⟩] => [(fact (AllowF most sw now ⟨a0, a1, a2, a3, a4, a5, a6, a7, a8⟩ R m n want), true)]
      | _, _ => [] }

theorem acalls_of_G {M : Mem} {f : FuncId} {args : List Value} {os : List AObj} {R : Value → List AObj → List AObj → Gho → Prop} (h : ACallsG Try.prog M f args os R) {v : Value} {ns : List AObj} (hR : ∀ v1 o1 n1 g, R v1 o1 n1 g → v1 = v ∧ o1 = os ∧ n1 = ns) : ACalls Try.prog M f args os v os ns := by
  refine ⟨rfl, fun m w args' r hargs => ?_⟩
  refine (h m w args' r hargs).mono ?_
  rintro e w' ⟨v1, o1, n1, g, v', m', hr, _, he, htr, hvr, _⟩
  obtain ⟨rfl, rfl, rfl⟩ := hR _ _ _ _ hr
  exact ⟨v', m', he, htr, hvr⟩

theorem allowSum_sound {f : FuncId} {fn : Func} (hf : Try.prog.funcs[f]? = some fn) (hn : (fn.name == "runtime.NumGoroutine") = false) (hb : fn.body.isSome = true) {M : Mem} {want : Bool}
    (hc : ∀ {L : List Bk} {gr : Bool} {es c : Nat} {most sw now : Int} {key : Key}, now ≤ 9223372036854775807 → KeyOk key → (∀ b ∈ L, KeyOk b.k) →
      (ValidL most sw now L → want = true → ACalls Try.prog M f [.agg #[.int .i64 most, .int .i64 sw, slR L.length c], kv key, .int .i64 now] [⟨rowsL L, gr, es, true⟩] (okV most sw now 1 (allowL most sw now key L).2.length (allowL most sw now key L).1) [⟨rowsL L, gr, es, true⟩] [⟨rowsL (allowL most sw now key L).2, true, 11, true⟩]) ∧
      (¬ ValidL most sw now L → want = false → ACalls Try.prog M f [.agg #[.int .i64 most, .int .i64 sw, slR L.length c], kv key, .int .i64 now] [⟨rowsL L, gr, es, true⟩] noV [⟨rowsL L, gr, es, true⟩] [])) : (allowSum f want).SoundC Try.prog M := by
  refine sumC_sound hf hn hb fun args os v os' ns hs hp => ?_
  simp only [allowSum] at hs hp
  split at hs
  · rename_i most sw m n c a0 a1 a2 a3 a4 a5 a6 a7 a8 now R gr es
    obtain ⟨rfl, hnow, hkey, L, rfl, hn, hks, hv⟩ := fact_iff.1 (hp _ (List.Mem.head _))
    subst hn
    have := hc (L := L) (gr := gr) (es := es) (c := c) (most := most) (sw := sw) (now := now) hnow hkey hks
    cases want with
    | true =>
      cases hs
      unfold alR alB
      rw [lsR_rows rfl]
      exact ⟨this.1 (hv.2 rfl) rfl, fun _ => rfl⟩
    | false =>
      cases hs
      exact ⟨this.2 (fun h => by have := hv.1 h; cases this) rfl, fun _ => rfl⟩
  · cases hs

theorem specSs (M : Mem) (want : Bool) : (allowSum 6 want).SoundC Try.prog M :=
  allowSum_sound Try.func6 (by kernel_rfl) (by kernel_rfl) fun hnow _ _ => ⟨fun hv _ => specAllow hnow hv, fun hv _ => specAllowBad hv⟩
theorem implSs (M : Mem) (want : Bool) : (allowSum 9 want).SoundC Try.prog M :=
  allowSum_sound Try.func9 (by kernel_rfl) (by kernel_rfl) fun hnow hkey hks => by
    refine ⟨fun hv _ => acalls_of_G (allowS hks hkey) ?_, fun hv _ => acalls_of_G (allowS hks hkey) ?_⟩
    · rintro v1 o1 n1 g ⟨rfl, ⟨h, _⟩ | ⟨_, rfl, rfl⟩⟩
      · exact absurd hv h
      · exact ⟨rfl, rfl, rfl⟩
    · rintro v1 o1 n1 g ⟨rfl, ⟨_, rfl, rfl⟩ | ⟨h, _⟩⟩
      · exact ⟨rfl, rfl, rfl⟩
      · exact absurd h hv
end Go.Proofs.Ytfkdcpinajnbfaa
