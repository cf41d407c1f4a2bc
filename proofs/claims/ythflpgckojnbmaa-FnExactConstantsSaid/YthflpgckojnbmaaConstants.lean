/- The law FnExactConstants returns true, and it has no arguments that could change.
   Conditions: none. -/
import Derived.Test.YthflpgckojnbmaaAbB
import Derived.Test.YthflpgckojnbmaaRows
import Derived.KernelRfl
import Derived.WalkKit
import Derived.ProofKit
open Go.Ab
namespace Go.Proofs.Ythflpgckojnbmaa
theorem own : ownKnob Try.prog.godebug = none := by kernel_rfl

set_option maxRecDepth 100000 in
theorem run3 (M : Mem) : ACalls Try.prog M 3 [] [] (.bool true) [] [] :=
  acalls_of_evF (K := fns []) (fns_sound (by simp)) (by kernel_rfl) Try.func3 (fuel := 1000) (keep := []) (by kernel_rfl)

set_option maxRecDepth 100000 in
theorem lifted3 (os : Os) (started : os.Started) (H : Type) (enc : TypeId × Value → H) :
    ReturnsInHanded {} Try.checked os 3 .any (Rows.fnExactConstantsSpec.pre6 enc Try.prog Try.f3 Rows.fnExactConstantsRow.domain false) (Rows.fnExactConstantsSpec.post enc Try.prog Try.f3 false true false false) :=
  lifted own (by kernel_rfl) Try.func3 (tb := 4) (by kernel_rfl) Try.underlying4 (by kernel_rfl) rfl (fun H ds h => by
        cases ds with
        | nil => rfl
        | cons d ds => exact absurd h (by intro hx; cases hx))
      (fun W base H enc args ds ps h _ => by
        obtain ⟨rfl, rfl, rfl⟩ := Go.ChangeShapes.trodAll_none h
        exact ⟨rfl, _, run3 _⟩) os started enc
      (ChangeSpec.witness6 (enc := enc) (C := Try.checked) false ⟨#[], #[], []⟩ 8 (by kernel_rfl) (by kernel_rfl) (by kernel_rfl) (by kernel_rfl))

set_option maxRecDepth 100000 in
theorem constants : Rows.FnExactConstantsSaid :=
  OpenClaim.holds_of_wide 3 Try.f3 rfl rfl rfl rfl rfl rfl rfl ⟨rfl, rfl, rfl, rfl, rfl⟩ rfl rfl rfl rfl rfl (by kernel_rfl) Try.func3 (by kernel_rfl)
    (of_decide_eq_true (by kernel_rfl)) (by unfold Func.isWrapper; first | (rw [if_pos (by decide +kernel)]; kernel_rfl) | (rw [if_neg (by decide +kernel)]; exact ⟨rfl, rfl⟩))
    (fun os started H enc _ => lifted3 os started H enc)
end Go.Proofs.Ythflpgckojnbmaa
