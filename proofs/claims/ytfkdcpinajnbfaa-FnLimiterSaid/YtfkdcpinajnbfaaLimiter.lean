/- The law FnLimiter returns true of whatever bytes the draws come from, which read behind the call as before.
   Conditions: none. -/
import Derived.Test.YtfkdcpinajnbfaaFlAll
import Derived.Test.YtfkdcpinajnbfaaAbC
open Go.Ab
set_option linter.unusedVariables false
set_option linter.unusedSimpArgs false
namespace Go.Proofs.Ytfkdcpinajnbfaa
set_option maxRecDepth 100000

theorem limiterA {M : Mem} {u : Option (Nat × Nat)} {n c : Nat} (hok : nOk M (srcA u) (Go.Ab.lenS u n) = true) (hle : Go.Ab.lenS u n ≤ 1048576) : ACalls Try.prog M 4 [argV u n c] [] (.bool true) [] [] := by
  refine acalls_of_at Try.func4 body4 rfl fun O a w hO hat => ?_
  have hO' : O.h = [] := hO
  have hsrc : SrcOk M u n (seedC (Go.Ab.lenS u n)) := ⟨hok, hle, Int.le_refl _⟩
  have hl : ∀ s ∈ [I13 M, nSumG M 14, lenSum], s.SoundC Try.prog M := consC (I13s M).c (consC (dN M) (consC (lenSs M).c nilC))
  have hlr := lenR_bound hle
  have r1 : 0 ≤ nK 1000000000 (d4 M u n 1).1 ∧ nK 1000000000 (d4 M u n 1).1 < 1000000000 := nK_range (k := 1000000000) (dw_x M u n (seedC (Go.Ab.lenS u n)) 0) (by decide) (by decide)
  have r2 : 0 ≤ nK 5 (d4 M u n 2).1 ∧ nK 5 (d4 M u n 2).1 < 5 := nK_range (k := 5) (dw_x M u n (seedC (Go.Ab.lenS u n)) 1) (by decide) (by decide)
  have r3 : 0 ≤ nK (lenR (Go.Ab.lenS u n) 57) (d4 M u n 3).1 ∧ nK (lenR (Go.Ab.lenS u n) 57) (d4 M u n 3).1 < (lenR (Go.Ab.lenS u n) 57) := nK_range (k := lenR (Go.Ab.lenS u n) 57) (dw_x M u n (seedC (Go.Ab.lenS u n)) 2) hlr.1 (by omega)
  refine wp_items c4 ?_
  rw [itemsC4]
  show wpL Try.prog _ ([itemN c4 0, itemN c4 1, itemN c4 2, itemN c4 3, itemN c4 4, itemN c4 5, itemN c4 6, itemN c4 7, itemN c4 8, itemN c4 9] ++ [.block 0 (.loop l4), itemN c4 11, .block 7 (.loop el4), itemN c4 13, itemN c4 14]) a w
  refine hat.items (ovS_ok shT _ _) hl mix (fun c _ => hooksOk_nil c) (fs_s M u n c) (held_two (held_two (held_two (held_one (decide_eq_false (by omega))) (hsrc.pin 0 (by decide))) (hsrc.pin 1 (by decide))) (hsrc.pin 2 (by omega))) rfl (fun _ a1 w1 h1 => ?_) fun hne => absurd rfl hne
  have em : IntKind.i64.wrap (1 + nK 5 (d4 M u n 2).1) = 1 + nK 5 (d4 M u n 2).1 := Ab.wrap_i64 (by omega) (by omega)
  have ek : IntKind.i64.wrap (3 + nK (lenR (Go.Ab.lenS u n) 57) (d4 M u n 3).1) = ((3 + nK (lenR (Go.Ab.lenS u n) 57) (d4 M u n 3).1).toNat : Int) - ((0 : Nat) : Int) := by rw [Ab.wrap_i64 (by omega) (by omega)]; omega
  rw [em, ek] at h1
  refine roundsL hO' (N := (3 + nK (lenR (Go.Ab.lenS u n) 57) (d4 M u n 3).1).toNat) (by omega) (now := nK 1000000000 (d4 M u n 1).1) (p := d4 M u n 3) (most := 1 + nK 5 (d4 M u n 2).1) ⟨fun _ => rfl, ⟨⟨r1.1, by omega, by omega, by simp; omega, Int.le_refl _, r1.1⟩, ⟨fun b hb => (by cases hb), List.Pairwise.nil⟩⟩, fun b hb => (by cases hb), RateI.zero _, hsrc.next 3, by omega, rfl, h1⟩ ?_
  intro H now L p' sw s x hR hlen hnow a2 w2 h2
  exact testE hO' hR hlen hnow h2

theorem run4 (W : World) (base : Nat) (v0 : Value) (h0 : Value.okWide Try.prog W .any base 37 v0) {H : Type} {enc : TypeId × Value → H} {d : DataW H} {p : List MemPlace} (hd0 : DataW.Trod enc Try.prog W 0 (fun _ => true) true 37 v0 d p) :
    groundL [v0] = true ∧ ∃ ns, ACalls Try.prog (memOf W) 4 [v0] [] (.bool true) [] ns := by
  rcases slice_arg (e := 5) Try.underlying37 u5 (by kernel_rfl) h0 hd0 with rfl | ⟨b, off, n, c, x, rfl, hcap, hc2, hx⟩
  · exact ⟨rfl, [], limiterA (u := none) (n := 0) (c := 0) rfl (by decide)⟩
  · refine ⟨rfl, [], ?_⟩
    by_cases hn : n ≤ 1048576
    · refine limiterA (u := some (b, off)) (n := n) (c := c) ?_ hn
      show (true && (List.range n).all fun j => roB .u8 (memOf W) b (off + j)) = true
      rw [Bool.true_and]
      exact List.all_eq_true.2 fun j hj => (hx.roB (List.mem_range.1 hj)).1
    · exact acalls_of_evFU (ovS_ok shT _ _) nilC mix Try.func4 (hooksOk_nil _) (fs_l _ (some (b, off)) n c) (held_one (decide_eq_true (by show (n : Int) > 1048576; omega)))

set_option maxRecDepth 100000 in
theorem FnLimiter_lifted (os : Os) (started : os.Started) (H : Type) (enc : TypeId × Value → H) :
    ReturnsInHanded {} Try.checked os 4 .any (Rows.fnLimiterSpec.pre6 enc Try.prog Try.f4 Rows.fnLimiterRow.domain false) (Rows.fnLimiterSpec.post enc Try.prog Try.f4 false true false false) :=
  lifted own (by kernel_rfl) Try.func4 (tb := 4) (by kernel_rfl) Try.underlying4 (by kernel_rfl) rfl (fun H ds h => by
      obtain ⟨_, rfl⟩ := len1 (l := ds) (h.trans (by kernel_rfl)); rfl)
    (fun W base H enc args ds ps h hv => by
      rw [show Try.f4.params = _ from Try.params4] at h hv
      obtain ⟨v0, d0, rfl, rfl, h0⟩ := Go.ChangeShapes.trodAll_one h
      exact run4 W base v0 (hv 0 _ v0 rfl rfl) h0) os started enc
    (ChangeSpec.witness6 (enc := enc) (C := Try.checked) false ⟨#[], #[(.slice none 0 0)], []⟩ 64 (by kernel_rfl) (by kernel_rfl) (by kernel_rfl) (by kernel_rfl))

set_option maxRecDepth 100000 in
/-- The statement. -/
theorem FnLimiter_holds : Rows.FnLimiterSaid :=
  OpenClaim.holds_of_wide 4 Try.f4 rfl rfl rfl rfl rfl rfl rfl ⟨rfl, rfl, rfl, rfl, rfl⟩ rfl rfl rfl rfl rfl (by kernel_rfl) Try.func4 (by kernel_rfl)
    (of_decide_eq_true (by kernel_rfl)) (by unfold Func.isWrapper; first | (rw [if_pos (by decide +kernel)]; kernel_rfl) | (rw [if_neg (by decide +kernel)]; exact ⟨rfl, rfl⟩))
    (fun os started H enc _ => FnLimiter_lifted os started H enc)


end Go.Proofs.Ytfkdcpinajnbfaa
