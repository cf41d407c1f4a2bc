/- The program's ladder: the loop as a whole.
   Conditions: the limbs are in bounds. -/
import Derived.Test.YtjdckgnpocnifaaLadder
open Go.Ab Go.Num
set_option linter.unusedVariables false
set_option linter.unusedSimpArgs false
namespace Go.Proofs.Ytjdckgnpocnifaa

theorem hook15_ok (M : Mem) : HooksOk Try.prog M [(0, mkHook Try.prog M 0 (.loop loop15) 130 [2, 6, 9, 10] hook15 [2, 3, 6, 8, 9, 10, 11, 12, 13])] (Try.f15.body.getD .skip) := by
  refine hooks_one occ15 (mkHook_ok fun vs H0 e V H p z hf hp => ?_)
  unfold hook15 at hf
  split at hf
  · rename_i m k S g0 e0 c1 g1 e1 c2 g2 e2 U g3 e3 X2 g4 e4 Z2 g5 e5 X3 g6 e6 Z3 g7 e7
    split at hf
    · rename_i hA
      cases hf
      simp only [Bool.and_eq_true] at hA
      obtain ⟨a0, a1, a2, a3, a4, a5⟩ := hA
      have hk : k = 254 := by have := hp (decide (k = 254), true) (List.Mem.head _); simpa using this
      have hr : rngB S = true := hp (rngB S, true) (List.Mem.tail _ (List.Mem.head _))
      have hl : (leB RB U && (leB RB X2 && (leB RB Z2 && (leB RB X3 && leB RB Z3)))) = true := hp (_, true) (List.Mem.tail _ (List.Mem.tail _ (List.Mem.head _)))
      simp only [Bool.and_eq_true] at hl
      obtain ⟨l1, l2, l3, l4, l5⟩ := hl
      subst hk
      have bs : E4.Bd ⟨wd X2, wd Z2, wd X3, wd Z3⟩ := ⟨leB_bd a2 l2, leB_bd a3 l3, leB_bd a4 l4, leB_bd a5 l5⟩
      obtain ⟨z', hz⟩ := loop_bigK (k := 8) (n := 255) (live := [2, 3, 6, 8, 9, 10, 11, 12, 13]) (live' := [2, 6, 9, 10]) (V := fun i => vs15 m (254 - (i : Int)))
        (H := fun i => hsE ⟨g0, g3, g4, g5, g6, g7, e0, e3, e4, e5, e6, e7⟩ ⟨c1, g1, e1, true⟩ ⟨c2, g2, e2, true⟩ S (wd U) (ladE (bitS S) (wd U) ⟨wd X2, wd Z2, wd X3, wd Z3⟩ i)) (e := .exit 0) (by simp) (by simp [hsE, hs15])
        (fun i hi z => step15 M a0 hr (leB_bd a1 l1) bs _ ⟨c1, g1, e1, true⟩ ⟨c2, g2, e2, true⟩ m hi z)
        (fun z => by
          obtain ⟨z', h⟩ := big_view (ovX_ok _ _) nilC mix (hooksOk_nil _) (last15 M _ m (254 - ((255 : Nat) : Int)) z) (held_one (by decide))
          exact ⟨z', h.toK⟩) z
      have h0 : hsE ⟨g0, g3, g4, g5, g6, g7, e0, e3, e4, e5, e6, e7⟩ ⟨c1, g1, e1, true⟩ ⟨c2, g2, e2, true⟩ S (wd U) (ladE (bitS S) (wd U) ⟨wd X2, wd Z2, wd X3, wd Z3⟩ 0) =
          [some ⟨S, g0, e0, true⟩, some ⟨c1, g1, e1, true⟩, some ⟨c2, g2, e2, true⟩, some ⟨U, g3, e3, true⟩, some ⟨X2, g4, e4, true⟩, some ⟨Z2, g5, e5, true⟩, some ⟨X3, g6, e6, true⟩, some ⟨Z3, g7, e7, true⟩] := by
        simp only [hsE, hs15, ladE_zero, ← isE_eq a1, ← isE_eq a2, ← isE_eq a3, ← isE_eq a4, ← isE_eq a5]
      simp only [h0] at hz
      exact ⟨z', block_big hz⟩
    · cases hf
  · cases hf

end Go.Proofs.Ytjdckgnpocnifaa
