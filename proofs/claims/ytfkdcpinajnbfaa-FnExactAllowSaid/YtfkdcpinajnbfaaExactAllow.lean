/- The law FnExactAllow returns true of every limiter, key and clock, which read behind the call as before.
   Conditions: none. -/
import Derived.Test.YtfkdcpinajnbfaaLim
import Derived.Test.YtfkdcpinajnbfaaAbC
open Go.Ab
set_option linter.unusedVariables false
set_option linter.unusedSimpArgs false
namespace Go.Proofs.Ytfkdcpinajnbfaa
set_option maxRecDepth 100000

noncomputable def L3 (M : Mem) (want : Bool) : List Sum := [szLSum, toLSum M, toKSum, allowSum 6 want, allowSum 9 want, eqLS, mkLS, hdLS]
theorem L3s (M : Mem) (want : Bool) : ∀ s ∈ L3 M want, s.SoundC Try.prog M := consC (szLs M).c (consC (toLs M) (consC (toK M).c (consC (specSs M want) (consC (implSs M want) (consC (eqLSs M) (consC (mkLSs M) (consC (hdLSs M) nilC)))))))

/-- Two limiters said to be the same. -/
noncomputable def samP (R : List Value) (n : Nat) (a s : Int) : Pins := [(fact (RowF R (n * 11) n), true), (fact (RowF R (n * 11) n), true), (decide (a = a ∧ s = s ∧ lsR R n = lsR R n), true)]
noncomputable def okP (tp : Pins) (most sw now : Int) (key : Key) (R : List Value) (n : Nat) (RA : List Value) (nA : Nat) (bA : Bool) : Pins :=
  tp ++ [(fact (AllowF most sw now key R (n * 11) n true), true)] ++ tp ++ [(fact (AllowF most sw now key R (n * 11) n true), true)] ++ samP RA nA most (swB sw now) ++ [(bA != bA, false)] ++
  tp ++ samP R n most sw ++ [(fact (RowF R (n * 11) n), true), (decide (kAt 1 n < 0), false)] ++ samP RA nA most (swB sw now) ++ [(bA != bA, false), (fact (RowF RA (nA * 11) nA), true),
   (fact (nA * 11 = nA * 11 ∧ nA ≤ 4611686018427387904 ∧ rowsL (markLs 1 nA) = rowsL (markLs 1 nA)), true), (decide (kAt 1 nA < 0), false), (decide (kAt 1 nA < 0), false), (kAt 1 nA != kAt 1 nA, false)] ++
  tp ++ [(fact (AllowF most sw now key R (n * 11) n true), true)] ++ samP RA nA most (swB sw now) ++ [(bA != bA, false)]
noncomputable def noP (tp : Pins) (most sw now : Int) (key : Key) (R : List Value) (n : Nat) : Pins :=
  tp ++ [(fact (AllowF most sw now key R (n * 11) n false), true)] ++ tp ++ [(fact (AllowF most sw now key R (n * 11) n false), true), (true, true), (false != false, false)] ++
  tp ++ samP R n most sw ++ [(fact (RowF R (n * 11) n), true), (decide (kAt 1 n < 0), false), (true, true), (false != false, false), (decide ((1 : Int) < 0), false), ((1 : Int) != 1, false)] ++
  tp ++ [(fact (AllowF most sw now key R (n * 11) n false), true), (true, true), (false != false, false)]
abbrev sy3 : List Nat := [22, 44, 49, 54, 60, 64, 70, 79, 82, 94, 99]
abbrev or3 : List Bool := [false, true, false, true, false, true, false, false, false, true, false]
def tpM (M : Mem) (b off n : Nat) : Pins := [(decide (n ≤ 1048576), true), (rowsM M b off n, true)]

theorem r3l (M : Mem) (most sw now : Int) (key : Key) (b off n c : Nat) : evFU Try.prog M (ovS shT Try.prog M) [] [] (L3 M true) sy3 2000 Try.f3 [.agg ⟨[.int .i64 most, .int .i64 sw, slM b off n c]⟩, kv key, .int .i64 now] [] [true]
   = some ((.bool true, [], []), [(decide (szR 1048576 n < 0), true)]) := by kernel_rfl
theorem r3s (M : Mem) (most sw now : Int) (key : Key) (b off n c : Nat) : evFU Try.prog M (ovS shT Try.prog M) [] [] (L3 M true) sy3 2000 Try.f3 [.agg ⟨[.int .i64 most, .int .i64 sw, slM b off n c]⟩, kv key, .int .i64 now] [] or3
   = some ((.bool true, [], []), (decide (szR 1048576 n < 0), false) :: okP (tpM M b off n) most sw now key (rowsL (lstM M b off n)) n (rowsL (alR most sw now key (rowsL (lstM M b off n)) n)) (alR most sw now key (rowsL (lstM M b off n)) n).length (alB most sw now key (rowsL (lstM M b off n)) n)) := by kernel_rfl
theorem r3f (M : Mem) (most sw now : Int) (key : Key) (b off n c : Nat) : evFU Try.prog M (ovS shT Try.prog M) [] [] (L3 M false) sy3 2000 Try.f3 [.agg ⟨[.int .i64 most, .int .i64 sw, slM b off n c]⟩, kv key, .int .i64 now] [] or3
   = some ((.bool true, [], []), (decide (szR 1048576 n < 0), false) :: noP (tpM M b off n) most sw now key (rowsL (lstM M b off n)) n) := by kernel_rfl
theorem r3zs (M : Mem) (most sw now : Int) (key : Key) : evFU Try.prog M (ovS shT Try.prog M) [] [] (L3 M true) sy3 2000 Try.f3 [.agg ⟨[.int .i64 most, .int .i64 sw, .slice none 0 0]⟩, kv key, .int .i64 now] [] or3
   = some ((.bool true, [], []), (decide ((1048576 : Int) < 0), false) :: okP [] most sw now key (rowsL []) 0 (rowsL (alR most sw now key (rowsL []) 0)) (alR most sw now key (rowsL []) 0).length (alB most sw now key (rowsL []) 0)) := by kernel_rfl
theorem r3zf (M : Mem) (most sw now : Int) (key : Key) : evFU Try.prog M (ovS shT Try.prog M) [] [] (L3 M false) sy3 2000 Try.f3 [.agg ⟨[.int .i64 most, .int .i64 sw, .slice none 0 0]⟩, kv key, .int .i64 now] [] or3
   = some ((.bool true, [], []), (decide ((1048576 : Int) < 0), false) :: noP [] most sw now key (rowsL []) 0) := by kernel_rfl

/-! ### The checks hold -/
theorem allowL_len (most sw now : Int) (key : Key) (L : List Bk) : (allowL most sw now key L).2.length ≤ L.length + 1 := by
  have h1 : (sweepB sw now L).length ≤ L.length := by
    unfold sweepB
    split
    · exact List.length_filter_le _ _
    · exact Nat.le_refl _
  unfold allowL askL
  split
  · simp only [updL, List.length_map]; omega
  · split
    · simp only [List.length_append, List.length_cons, List.length_nil]; omega
    · simp only []; omega

theorem rowF {L : List Bk} {n : Nat} (hn : n = L.length) (h : n ≤ 1048577) : fact (RowF (rowsL L) (n * 11) n) = true := fact_iff.2 ⟨rfl, by omega, L, rfl, hn⟩
theorem samH {L : List Bk} {n : Nat} (hn : n = L.length) (h : n ≤ 1048577) (a s : Int) : Held (samP (rowsL L) n a s) := held_cons (rowF hn h) (held_cons (rowF hn h) (held_one (by simp)))
theorem kAtH {n : Nat} (h : n ≤ 1048577) : decide (kAt 1 n < 0) = false := by
  rw [decide_eq_false_iff_not, kAt_small (by decide) (by omega)]
  omega

theorem okH {tp : Pins} (ht : Held tp) {most sw now : Int} {key : Key} {L : List Bk} {n : Nat} (hn : n = L.length) (h : n ≤ 1048576) (hnow : now ≤ 9223372036854775807) (hkey : KeyOk key) (hks : ∀ b ∈ L, KeyOk b.k) (hv : ValidL most sw now L) :
    Held (okP tp most sw now key (rowsL L) n (rowsL (alR most sw now key (rowsL L) n)) (alR most sw now key (rowsL L) n).length (alB most sw now key (rowsL L) n)) := by
  have hA : fact (AllowF most sw now key (rowsL L) (n * 11) n true) = true := fact_iff.2 ⟨rfl, hnow, hkey, L, rfl, hn, hks, iff_of_true hv rfl⟩
  have hlA : (alR most sw now key (rowsL L) n).length ≤ 1048577 := by
    unfold alR
    rw [lsR_rows hn]
    have := allowL_len most sw now key L
    omega
  have hs := samH (L := L) hn (by omega) most sw
  have hsA := samH (L := alR most sw now key (rowsL L) n) rfl hlA most (swB sw now)
  have hk := kAtH (n := n) (by omega)
  have hkA := kAtH hlA
  have hRA := rowF (L := alR most sw now key (rowsL L) n) rfl hlA
  have hself : ∀ x : Bool, (x != x) = false := fun x => by simp
  unfold okP
  exact (held_two (held_two (held_two (held_two (held_two (held_two (held_two (held_two (held_two (held_two (held_two (held_two (held_two (held_two ht (held_one hA)) ht) (held_one hA)) hsA) (held_one (hself _))) ht) hs) (held_cons (rowF hn (by omega)) (held_one hk))) hsA) (held_cons (hself _) (held_cons hRA (held_cons (fact_iff.2 ⟨rfl, by omega, rfl⟩) (held_cons hkA (held_cons hkA (held_one (by simp)))))))) ht) (held_one hA)) hsA) (held_one (hself _)))

theorem noH {tp : Pins} (ht : Held tp) {most sw now : Int} {key : Key} {L : List Bk} {n : Nat} (hn : n = L.length) (h : n ≤ 1048576) (hnow : now ≤ 9223372036854775807) (hkey : KeyOk key) (hks : ∀ b ∈ L, KeyOk b.k) (hv : ¬ ValidL most sw now L) :
    Held (noP tp most sw now key (rowsL L) n) := by
  have hA : fact (AllowF most sw now key (rowsL L) (n * 11) n false) = true := fact_iff.2 ⟨rfl, hnow, hkey, L, rfl, hn, hks, iff_of_false hv (by simp)⟩
  have hs := samH (L := L) hn (by omega) most sw
  have hk := kAtH (n := n) (by omega)
  unfold noP
  exact (held_two (held_two (held_two (held_two (held_two (held_two (held_two (held_two ht (held_one hA)) ht) (held_cons hA (held_cons rfl (held_one rfl)))) ht) hs) (held_cons (rowF hn (by omega)) (held_cons hk (held_cons rfl (held_cons rfl (held_cons rfl (held_one rfl))))))) ht) (held_cons hA (held_cons rfl (held_one rfl))))

theorem szR_iff {n : Nat} (h : n ≤ 9223372036854775807) : szR 1048576 n < 0 ↔ 1048576 < n := by
  have e : szV 1048576 n = 1048576 - n := by unfold szV; exact Ab.wrap_i64 (by omega) (by omega)
  unfold szR
  rw [e]
  split <;> omega

theorem run3 (W : World) (base : Nat) (v0 : Value) (h0 : Value.okWide Try.prog W .any base 24 v0) {H : Type} {enc : TypeId × Value → H} {d : DataW H} {p : List MemPlace} (hd0 : DataW.Trod enc Try.prog W 0 (fun _ => true) true 24 v0 d p)
    (v1 : Value) (h1 : Value.okWide Try.prog W .any base 25 v1) {d1 : DataW H} {p1 : List MemPlace} (_ : DataW.Trod enc Try.prog W 0 (fun _ => true) true 25 v1 d1 p1)
    (v2 : Value) (h2 : Value.okWide Try.prog W .any base 3 v2) {d2 : DataW H} {p2 : List MemPlace} (_ : DataW.Trod enc Try.prog W 0 (fun _ => true) true 3 v2 d2 p2) :
    groundL [v0, v1, v2] = true ∧ ∃ ns, ACalls Try.prog (memOf W) 3 [v0, v1, v2] [] (.bool true) [] ns := by
  obtain ⟨key, hkey, rfl⟩ := key_arg h1
  obtain ⟨now, rfl, hnow⟩ := value_ok (k := .int .i64) (by kernel_rfl) h2
  obtain ⟨most, sw, _, _, rfl | ⟨b, off, n, c, rfl, hnc, hc, hrows⟩⟩ := lim_arg h0 hd0
  · refine ⟨rfl, [], ?_⟩
    by_cases hv : ValidL most sw now []
    · exact acalls_of_evFU (ovS_ok shT _ _) (L3s _ true) mix Try.func3 (hooksOk_nil _) (r3zs _ most sw now key) (held_cons rfl (okH held_nil (L := []) rfl (by omega) hnow.2 hkey (fun b hb => by cases hb) hv))
    · exact acalls_of_evFU (ovS_ok shT _ _) (L3s _ false) mix Try.func3 (hooksOk_nil _) (r3zf _ most sw now key) (held_cons rfl (noH held_nil (L := []) rfl (by omega) hnow.2 hkey (fun b hb => by cases hb) hv))
  · refine ⟨rfl, [], ?_⟩
    obtain ⟨hM, hfit⟩ := lim_rows hrows
    by_cases hn : n ≤ 1048576
    · have hsz : decide (szR 1048576 n < 0) = false := by rw [decide_eq_false_iff_not, szR_iff (by omega)]; omega
      have ht : Held (tpM (memOf W) b off n) := held_cons (decide_eq_true hn) (held_one hM)
      have hlen : n = (lstM (memOf W) b off n).length := (lstM_length _ _ _ _).symm
      by_cases hv : ValidL most sw now (lstM (memOf W) b off n)
      · exact acalls_of_evFU (ovS_ok shT _ _) (L3s _ true) mix Try.func3 (hooksOk_nil _) (r3s _ most sw now key b off n c) (held_cons hsz (okH ht hlen hn hnow.2 hkey (fun b hb => (hfit b hb).key) hv))
      · exact acalls_of_evFU (ovS_ok shT _ _) (L3s _ false) mix Try.func3 (hooksOk_nil _) (r3f _ most sw now key b off n c) (held_cons hsz (noH ht hlen hn hnow.2 hkey (fun b hb => (hfit b hb).key) hv))
    · exact acalls_of_evFU (ovS_ok shT _ _) (L3s _ true) mix Try.func3 (hooksOk_nil _) (r3l _ most sw now key b off n c) (held_one (by rw [decide_eq_true_eq, szR_iff (by omega)]; omega))

set_option maxRecDepth 100000 in
theorem FnExactAllow_lifted (os : Os) (started : os.Started) (H : Type) (enc : TypeId × Value → H) :
    ReturnsInHanded {} Try.checked os 3 .any (Rows.fnExactAllowSpec.pre6 enc Try.prog Try.f3 Rows.fnExactAllowRow.domain false) (Rows.fnExactAllowSpec.post enc Try.prog Try.f3 false true false false) :=
  lifted own (by kernel_rfl) Try.func3 (tb := 4) (by kernel_rfl) Try.underlying4 (by kernel_rfl) rfl (fun H ds h => by
      obtain ⟨_, _, _, rfl⟩ := len3 (l := ds) (h.trans (by kernel_rfl)); rfl)
    (fun W base H enc args ds ps h hv => by
      rw [show Try.f3.params = _ from Try.params3] at h hv
      obtain ⟨v0, v1, v2, d0, d1, d2, p0, p1, p2, rfl, rfl, rfl, h0, h1, h2⟩ := Go.ChangeShapes.trodAll_three h
      exact run3 W base v0 (hv 0 _ v0 rfl rfl) h0 v1 (hv 1 _ v1 rfl rfl) h1 v2 (hv 2 _ v2 rfl rfl) h2) os started enc
    (ChangeSpec.witness6 (enc := enc) (C := Try.checked) false ⟨#[], #[(.agg #[.int .i64 0, .int .i64 0, .slice none 0 0]), (.agg (Array.replicate 9 (.int .u8 0))), (.int .i64 0)], []⟩ 64 (by kernel_rfl) (by kernel_rfl) (by kernel_rfl) (by kernel_rfl))

set_option maxRecDepth 100000 in
/-- The statement. -/
theorem FnExactAllow_holds : Rows.FnExactAllowSaid :=
  OpenClaim.holds_of_wide 3 Try.f3 rfl rfl rfl rfl rfl rfl rfl ⟨rfl, rfl, rfl, rfl, rfl⟩ rfl rfl rfl rfl rfl (by kernel_rfl) Try.func3 (by kernel_rfl)
    (of_decide_eq_true (by kernel_rfl)) (by unfold Func.isWrapper; first | (rw [if_pos (by decide +kernel)]; kernel_rfl) | (rw [if_neg (by decide +kernel)]; exact ⟨rfl, rfl⟩))
    (fun os started H enc _ => FnExactAllow_lifted os started H enc)


end Go.Proofs.Ytfkdcpinajnbfaa
