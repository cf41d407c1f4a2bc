/- The law FnStamps returns true of whatever bytes the draws come from, which read behind the call as before.
   Conditions: none. -/
import Derived.Test.YthflpgckojnbmaaStampsA
open Go.Ab
set_option linter.unusedVariables false
set_option linter.unusedSimpArgs false
namespace Go.Proofs.Ythflpgckojnbmaa

theorem st_bounds {D : Nat → Int × Int} (h1 : ∀ k, 0 ≤ (D (k + 1)).1) (q : Bool) : 0 ≤ stA D ∧ stA D ≤ 2000000000000000000 ∧ 1 ≤ stD D q ∧ stD D q ≤ 100000000 := by
  obtain ⟨a1, a2⟩ := nR_range (k := 2000000000) (h1 0) (by decide) (by decide)
  obtain ⟨b1, b2⟩ := nR_range (k := 1000000000) (h1 1) (by decide) (by decide)
  obtain ⟨c1, c2⟩ := nR_range (k := 100000000) (h1 2) (by decide) (by decide)
  obtain ⟨d1, d2⟩ := nR_range (k := 3) (h1 4) (by decide) (by decide)
  simp only [Nat.zero_add, Nat.reduceAdd] at a1 a2 b1 b2 c1 c2 d1 d2
  have hA : 0 ≤ stA D ∧ stA D ≤ 2000000000000000000 := by
    unfold stA
    clear c1 c2 d1 d2
    generalize nR (D 1).1 2000000000 = r1 at *
    generalize nR (D 2).1 1000000000 = r2 at *
    rw [wrap_i64 (n := 1 + r2) (by omega) (by omega)]
    have m1 : 0 ≤ r1 * (1 + r2) := Int.mul_nonneg a1 (by omega)
    have m2 : r1 * (1 + r2) ≤ 2000000000 * 1000000000 := Int.mul_le_mul (by omega) (by omega) (by omega) (by decide)
    rw [wrap_i64 (by omega) (by omega)]
    omega
  refine ⟨hA.1, hA.2, ?_⟩
  clear hA a1 a2 b1 b2
  cases q with
  | true =>
    simp only [stD]
    rw [wrap_i64 (n := 50000000 + nR (D 5).1 3) (by omega) (by omega), wrap_i64 (by omega) (by omega)]
    omega
  | false =>
    simp only [stD]
    rw [wrap_i64 (by omega) (by omega)]
    omega

theorem lessL_tl {a b : Int} (ha : 0 ≤ a) (ha1 : a ≤ 9223372036854775807) (hb : 0 ≤ b) (hb1 : b ≤ 9223372036854775807) : lessL (tl a) (tl b) = decide (a < b) := tai_less ha ha1 hb hb1

theorem tl_get (x : Int) (i : Nat) (hi : i < 12) : (tl x).getD i 0 = taiRaw x i := by simp [tl, List.getD_eq_getElem?_getD, hi]

theorem stX_eq (a s lx ly : Int) {g : Bool} (hg : admB true (lessL (tl lx) (tl ly)) a s = g) : stX a s (tl lx) (tl ly) = if g = true then tl ly else tl lx := by
  subst hg
  unfold stX
  by_cases h : admB true (lessL (tl lx) (tl ly)) a s = true
  · rw [if_pos h]
    show _ = (List.range 12).map (taiRaw ly)
    apply List.map_congr_left
    intro i hi
    rw [admX, if_pos h]
    exact tl_get ly i (List.mem_range.1 hi)
  · rw [if_neg h]
    show _ = (List.range 12).map (taiRaw lx)
    apply List.map_congr_left
    intro i hi
    rw [admX, if_neg h]
    exact tl_get lx i (List.mem_range.1 hi)

theorem adm_no (a s : Int) : admB true false a s = false := by simp [admB]
theorem adm_yes {a s d : Int} (h0 : 0 ≤ a) (h1 : a ≤ 2000000000000000000) (h2 : 1 ≤ d) (h3 : d ≤ 100000000) (hs : s = a + d) : admB true true a s = !decide (d < 50000000) := by
  subst hs
  have e1 : decide (a < 0) = false := by rw [decide_eq_false_iff_not]; omega
  have e2 : decide (a > a + d) = false := by rw [decide_eq_false_iff_not]; omega
  have hw : IntKind.wrap .i64 (a + d - a) = d := by rw [wrap_i64 (by omega) (by omega)]; omega
  simp only [admB, hw, e1, e2, Bool.not_true, Bool.false_or, Bool.true_and]

theorem mid9 {a s d : Int} (h0 : 0 ≤ a) (h1 : a ≤ 2000000000000000000) (h2 : 1 ≤ d) (h3 : d ≤ 100000000) (hs : s = a + d) {lt : Bool} (hlt : decide (d < 50000000) = lt) :
    Held [(hasB .i64 a, true), (hasB .i64 s, true), (lessL (tl a) (tl s), true), (lessL (tl s) (tl a), false), (lessL (tl a) (tl a), false), (hasB .i64 a, true), (!andL (tl a) (tl a), false),
      (!andL (tl a) (tl a), false), (a != a, false), (admC true (lessL (tl a) (tl a)) a s != 12, false),
      (!(andL (stX a s (tl a) (tl a)) (tl a) && ((admT true (lessL (tl a) (tl a)) a s == a) && true)), false), (decide (d < 50000000), lt)] := by
  have hasA : hasB .i64 a = true := hasB_iff.2 ⟨by show (-9223372036854775808 : Int) ≤ _; omega, by show _ ≤ (9223372036854775807 : Int); omega⟩
  have hasS : hasB .i64 s = true := hasB_iff.2 ⟨by show (-9223372036854775808 : Int) ≤ _; omega, by show _ ≤ (9223372036854775807 : Int); omega⟩
  have l1 : lessL (tl a) (tl s) = true := by rw [lessL_tl (by omega) (by omega) (by omega) (by omega), decide_eq_true_eq]; omega
  have l2 : lessL (tl s) (tl a) = false := by rw [lessL_tl (by omega) (by omega) (by omega) (by omega), decide_eq_false_iff_not]; omega
  have l3 : lessL (tl a) (tl a) = false := by rw [lessL_tl (by omega) (by omega) (by omega) (by omega), decide_eq_false_iff_not]; omega
  have e : stX a s (tl a) (tl a) = tl a := by rw [stX_eq a s a a (g := false) (by rw [l3]; exact adm_no a s)]; rfl
  rw [l1, l2, l3, e, andL_self, hasA, hasS]
  refine held_cons rfl (held_cons rfl (held_cons rfl (held_cons rfl (held_cons rfl (held_cons rfl (held_cons rfl (held_cons rfl (held_cons ?_ (held_cons ?_ (held_cons ?_ (held_one hlt)))))))))))
  · simp
  · simp only [admC, adm_no]; rfl
  · simp only [admT, adm_no]; simp

theorem end9 {a s d : Int} (h0 : 0 ≤ a) (h1 : a ≤ 2000000000000000000) (h2 : 1 ≤ d) (h3 : d ≤ 100000000) (hs : s = a + d) {lt : Bool} (hlt : decide (d < 50000000) = lt) :
    Held (match (generalizing := false) lt with
    | true => [(admC true (lessL (tl a) (tl s)) a s == 13, true), (andL (stX a s (tl a) (tl s)) (tl a) && ((admT true (lessL (tl a) (tl s)) a s == a) && true), true)]
    | false => [(admC true (lessL (tl a) (tl s)) a s == 14, true), (andL (stX a s (tl a) (tl s)) (tl s), true), (admT true (lessL (tl a) (tl s)) a s == s, true)]) := by
  have l1 : lessL (tl a) (tl s) = true := by rw [lessL_tl (by omega) (by omega) (by omega) (by omega), decide_eq_true_eq]; omega
  have hy := adm_yes h0 h1 h2 h3 hs
  rw [hlt] at hy
  have e := stX_eq a s a s (g := !lt) (by rw [l1]; exact hy)
  rw [l1, e]
  cases lt with
  | true =>
    refine held_cons ?_ (held_one ?_)
    · simp only [admC, hy]; rfl
    · simp only [admT, hy]; simp [andL_self]
  | false =>
    refine held_cons ?_ (held_cons ?_ (held_one ?_))
    · simp only [admC, hy]; rfl
    · simp [andL_self]
    · simp only [admT, hy]; simp

theorem run9a {D : Nat → Int × Int} (h1 : ∀ k, 0 ≤ (D (k + 1)).1) (h2 : ∀ k, 0 ≤ (D k).2) {n : Nat} (hn : n ≤ 1048576) {q lt : Bool} (hq : (nR (D 4).1 4 == 0) = q) (hlt : decide (stD D q < 50000000) = lt) : Held (pins9 n true D q lt) := by
  obtain ⟨b1, b2, b3, b4⟩ := st_bounds h1 q
  have hS : stS D q = stA D + stD D q := by unfold stS; exact wrap_i64 (by omega) (by omega)
  have okA : ∀ k, Held (asksD true D k) := fun k => held_cons rfl (held_one (by have := h2 k; simpa using this))
  have hlong : decide ((n : Int) > 1048576) = false := by rw [decide_eq_false_iff_not]; omega
  have h5 : Held (match (generalizing := false) q with | true => asksD true D 4 | false => []) := by cases q; exact held_nil; exact okA 4
  have hm := mid9 b1 b2 b3 b4 hS hlt
  have he := end9 b1 b2 b3 b4 hS hlt
  clear b1 b2 b3 b4 hn h1
  unfold pins9
  exact held_cons hlong (held_app (okA 0) (held_app (okA 1) (held_app (okA 2) (held_app (okA 3) (held_cons hq (held_app h5 (held_app hm he)))))))

theorem drawS_ok (M : Mem) (b off n : Nat) (hn : n ≤ 1048576) (x0 : Int) : (∀ k, 0 ≤ (drawS M b off n x0 (k + 1)).1) ∧ ∀ k, 0 ≤ (drawS M b off n x0 k).2 := by
  refine ⟨fun k => (nX_has _ _).1, fun k => ?_⟩
  induction k with
  | zero => exact Int.le_refl 0
  | succ k ih =>
    show 0 ≤ nI n (drawS M b off n x0 k).2
    unfold nI
    split
    · rw [wrap_i64 (by omega) (by omega)]; omega
    · exact ih

theorem drawN_ok (x0 : Int) : (∀ k, 0 ≤ (drawN x0 (k + 1)).1) ∧ ∀ k, 0 ≤ (drawN x0 k).2 := by
  refine ⟨fun k => (nX_has _ _).1, fun k => ?_⟩
  induction k with
  | zero => exact Int.le_refl 0
  | succ k ih => exact ih

theorem run9 (W : World) (base : Nat) (v0 : Value) (h0 : Value.okWide Try.prog W .any base 38 v0) {H : Type} {enc : TypeId × Value → H} {d : DataW H} {p : List MemPlace} (hd : DataW.Trod enc Try.prog W 0 (fun _ => true) true 38 v0 d p) :
    groundL [v0] = true ∧ ∃ ns, ACalls Try.prog (memOf W) 9 [v0] [] (.bool true) [] ns := by
  rcases slice_arg (e := 5) Try.underlying38 Try.underlying5 (by kernel_rfl) h0 hd with rfl | ⟨b, off, n, c, x, rfl, hc, _, hx⟩
  · refine ⟨rfl, [], ?_⟩
    obtain ⟨k1, k2⟩ := drawN_ok (seed 0)
    obtain ⟨q, hq⟩ : ∃ q, (nR (drawN (seed 0) 4).1 4 == 0) = q := ⟨_, rfl⟩
    obtain ⟨lt, hlt⟩ : ∃ lt, decide (stD (drawN (seed 0)) q < 50000000) = lt := ⟨_, rfl⟩
    have hh := run9a k1 k2 (n := 0) (by omega) hq hlt
    clear hq hlt
    cases q <;> cases lt
    · exact acalls_of_evFC (L9_sound _) mix Try.func9 (n9_false_false _) hh
    · exact acalls_of_evFC (L9_sound _) mix Try.func9 (n9_false_true _) hh
    · exact acalls_of_evFC (L9_sound _) mix Try.func9 (n9_true_false _) hh
    · exact acalls_of_evFC (L9_sound _) mix Try.func9 (n9_true_true _) hh
  · refine ⟨rfl, [], ?_⟩
    by_cases hn : n ≤ 1048576
    · obtain ⟨k1, k2⟩ := drawS_ok (memOf W) b off n hn (seed n)
      obtain ⟨q, hq⟩ : ∃ q, (nR (drawS (memOf W) b off n (seed n) 4).1 4 == 0) = q := ⟨_, rfl⟩
      obtain ⟨lt, hlt⟩ : ∃ lt, decide (stD (drawS (memOf W) b off n (seed n)) q < 50000000) = lt := ⟨_, rfl⟩
      have hh := run9a k1 k2 (n := n) hn hq hlt
      clear hq hlt
      have hok := nOk_ro hx
      have hh : Held (pins9 n (nOk (memOf W) (some ⟨b, off, none⟩) n) (drawS (memOf W) b off n (seed n)) q lt) := by rw [hok]; exact hh
      cases q <;> cases lt
      · exact acalls_of_evFC (L9_sound _) mix Try.func9 (s9_false_false _ b off n c) hh
      · exact acalls_of_evFC (L9_sound _) mix Try.func9 (s9_false_true _ b off n c) hh
      · exact acalls_of_evFC (L9_sound _) mix Try.func9 (s9_true_false _ b off n c) hh
      · exact acalls_of_evFC (L9_sound _) mix Try.func9 (s9_true_true _ b off n c) hh
    · exact acalls_of_evFC (L9_sound _) mix Try.func9 (long9 _ b off n c) (held_one (by rw [decide_eq_true_eq]; omega))

set_option maxRecDepth 100000 in
theorem FnStamps_lifted (os : Os) (started : os.Started) (H : Type) (enc : TypeId × Value → H) :
    ReturnsInHanded {} Try.checked os 9 .any (Rows.fnStampsSpec.pre6 enc Try.prog Try.f9 Rows.fnStampsRow.domain false) (Rows.fnStampsSpec.post enc Try.prog Try.f9 false true false false) :=
  lifted own (by kernel_rfl) Try.func9 (tb := 4) (by kernel_rfl) Try.underlying4 (by kernel_rfl) rfl (fun H ds h => by
      obtain ⟨_, rfl⟩ := len1 (l := ds) (h.trans (by kernel_rfl)); rfl)
    (fun W base H enc args ds ps h hv => by
      rw [show Try.f9.params = _ from Try.params9] at h hv
      obtain ⟨v0, d0, rfl, rfl, h0⟩ := Go.ChangeShapes.trodAll_one h
      exact run9 W base v0 (hv 0 _ v0 rfl rfl) h0) os started enc
    (ChangeSpec.witness6 (enc := enc) (C := Try.checked) false ⟨#[], #[(.slice none 0 0)], []⟩ 64 (by kernel_rfl) (by kernel_rfl) (by kernel_rfl) (by kernel_rfl))

set_option maxRecDepth 100000 in
/-- The statement. -/
theorem FnStamps_holds : Rows.FnStampsSaid :=
  OpenClaim.holds_of_wide 9 Try.f9 rfl rfl rfl rfl rfl rfl rfl ⟨rfl, rfl, rfl, rfl, rfl⟩ rfl rfl rfl rfl rfl (by kernel_rfl) Try.func9 (by kernel_rfl)
    (of_decide_eq_true (by kernel_rfl)) (by unfold Func.isWrapper; first | (rw [if_pos (by decide +kernel)]; kernel_rfl) | (rw [if_neg (by decide +kernel)]; exact ⟨rfl, rfl⟩))
    (fun os started H enc _ => FnStamps_lifted os started H enc)


end Go.Proofs.Ythflpgckojnbmaa
