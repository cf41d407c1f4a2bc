/- The law FnExactLimitKey returns true of every source, which reads behind the call as before.
   Conditions: none. -/
import Derived.Test.YthflpgckojnbmaaBase
open Go.Ab
namespace Go.Proofs.Ythflpgckojnbmaa

theorem kSource : flatK Try.prog 29 = some (.bool :: (List.replicate 16 (.int .u8) ++ [.int .u16])) := by kernel_rfl

/-- toSource and toByteA16, evaluated in place. -/
noncomputable def KSource (M : Mem) : Fns := fns [inl Try.prog M (fns []) 1000 42 Try.f42]
theorem KSource_sound (M : Mem) : (KSource M).Sound Try.prog M := fns_sound (fns_cons (inl_sound fns_nil mix Try.func42 (by kernel_rfl) (by kernel_rfl)) (by simp))

noncomputable def K5 (M : Mem) : Fns := fns [eqSum 18 9, inl Try.prog M (KSource M) 1000 16 Try.f16, inl Try.prog M (fns []) 1000 15 Try.f15, inl Try.prog M (fns []) 1000 17 Try.f17]
theorem K5_sound (M : Mem) : (K5 M).Sound Try.prog M := fns_sound (fns_cons (eq9 M) (fns_cons (inl_sound (KSource_sound M) mix Try.func16 (by kernel_rfl) (by kernel_rfl))
  (fns_cons (inl_sound fns_nil mix Try.func15 (by kernel_rfl) (by kernel_rfl)) (fns_cons (inl_sound fns_nil mix Try.func17 (by kernel_rfl) (by kernel_rfl)) (by simp)))))

set_option maxRecDepth 100000 in
theorem run5_6 (M : Mem) (a : Nat → Int) (p : Int) : evFO Try.prog M (K5 M) [13] 1000 Try.f5 [.agg ⟨.bool true :: (cellsI .u8 16 a ++ [.int .u16 p])⟩] [] [] [true] =
   some ((.bool true, [], []), [(eqB (([6] ++ [a 0, a 1, a 2, a 3, a 4, a 5, a 6, a 7]).map (.int .u8)) (([6] ++ [a 0, a 1, a 2, a 3, a 4, a 5, a 6, a 7]).map (.int .u8)), true)]) := by kernel_rfl
set_option maxRecDepth 100000 in
theorem run5_4 (M : Mem) (a : Nat → Int) (p : Int) : evFO Try.prog M (K5 M) [13] 1000 Try.f5 [.agg ⟨.bool false :: (cellsI .u8 16 a ++ [.int .u16 p])⟩] [] [] [true] =
   some ((.bool true, [], []), [(eqB (([4] ++ [a 0, a 1, a 2, a 3, 0, 0, 0, 0]).map (.int .u8)) (([4] ++ [a 0, a 1, a 2, a 3, 0, 0, 0, 0]).map (.int .u8)), true)]) := by kernel_rfl

theorem run5 (W : World) (base : Nat) (v0 : Value) (h0 : Value.okWide Try.prog W .any base 29 v0) {H : Type} {enc : TypeId × Value → H} {d : DataW H} {p : List MemPlace} (_ : DataW.Trod enc Try.prog W 0 (fun _ => true) true 29 v0 d p) :
    groundL [v0] = true ∧ ∃ ns, ACalls Try.prog (memOf W) 5 [v0] [] (.bool true) [] ns := by
  obtain ⟨cs, rfl, hc⟩ := flat_ok kSource h0
  refine ⟨by simp only [groundL, ground, groundA, hc.ground, Bool.and_true], [], ?_⟩
  obtain ⟨_, us, rfl, ⟨b, rfl⟩, hc2⟩ := cvs_cons hc
  obtain ⟨u1, u2, rfl, h1, h2⟩ := cvs_append hc2
  obtain ⟨a, rfl, _⟩ := cvs_cells (by exact ⟨by decide, by decide⟩) h1
  obtain ⟨_, us, rfl, ⟨n, rfl, _⟩, h3⟩ := cvs_cons h2
  obtain rfl := cvs_nil h3
  cases b with
  | true => exact acalls_of_evFO (K5_sound _) mix Try.func5 (run5_6 _ a n) (held_one (eqB_self _))
  | false => exact acalls_of_evFO (K5_sound _) mix Try.func5 (run5_4 _ a n) (held_one (eqB_self _))

set_option maxRecDepth 100000 in
theorem FnExactLimitKey_lifted (os : Os) (started : os.Started) (H : Type) (enc : TypeId × Value → H) :
    ReturnsInHanded {} Try.checked os 5 .any (Rows.fnExactLimitKeySpec.pre6 enc Try.prog Try.f5 Rows.fnExactLimitKeyRow.domain false) (Rows.fnExactLimitKeySpec.post enc Try.prog Try.f5 false true false false) :=
  lifted own (by kernel_rfl) Try.func5 (tb := 4) (by kernel_rfl) Try.underlying4 (by kernel_rfl) rfl (fun H ds h => by
      obtain ⟨_, rfl⟩ := len1 (l := ds) (h.trans (by kernel_rfl)); rfl)
    (fun W base H enc args ds ps h hv => by
      rw [show Try.f5.params = _ from Try.params5] at h hv
      obtain ⟨v0, d0, rfl, rfl, h0⟩ := Go.ChangeShapes.trodAll_one h
      exact run5 W base v0 (hv 0 _ v0 rfl rfl) h0) os started enc
    (ChangeSpec.witness6 (enc := enc) (C := Try.checked) false ⟨#[], #[(.agg ((#[.bool false]) ++ Array.replicate 16 (.int .u8 0) ++ #[.int .u16 0]))], []⟩ 64 (by kernel_rfl) (by kernel_rfl) (by kernel_rfl) (by kernel_rfl))

set_option maxRecDepth 100000 in
/-- The statement. -/
theorem FnExactLimitKey_holds : Rows.FnExactLimitKeySaid :=
  OpenClaim.holds_of_wide 5 Try.f5 rfl rfl rfl rfl rfl rfl rfl ⟨rfl, rfl, rfl, rfl, rfl⟩ rfl rfl rfl rfl rfl (by kernel_rfl) Try.func5 (by kernel_rfl)
    (of_decide_eq_true (by kernel_rfl)) (by unfold Func.isWrapper; first | (rw [if_pos (by decide +kernel)]; kernel_rfl) | (rw [if_neg (by decide +kernel)]; exact ⟨rfl, rfl⟩))
    (fun os started H enc _ => FnExactLimitKey_lifted os started H enc)

end Go.Proofs.Ythflpgckojnbmaa
