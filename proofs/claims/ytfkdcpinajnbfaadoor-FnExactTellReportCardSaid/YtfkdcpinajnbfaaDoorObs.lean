/- toObs of an observation that sends nothing.
   Conditions: none. -/
import Derived.Test.YtfkdcpinajnbfaaDoorEmpty
open Go.Ab Go.Num
set_option linter.unusedVariables false
set_option linter.unusedSimpArgs false
namespace Go.Proofs.YtfkdcpinajnbfaaDoor
set_option maxRecDepth 100000
noncomputable def c25 : Code := Tryd.f25.body.getD .skip
theorem body25 : Tryd.f25.body = some c25 := by kernel_rfl
theorem items25 : items c25 = [itemN c25 0, itemN c25 1, itemN c25 2, itemN c25 3, itemN c25 4, itemN c25 5, itemN c25 6, itemN c25 7, itemN c25 8, itemN c25 9, itemN c25 10, itemN c25 11] := by kernel_rfl
theorem r25_f : drawOf (itemN c25 6) = false := by kernel_rfl
theorem r25_r : List.range (opsOf (itemN c25 6)).size = [0, 1] ++ (2 :: ([3, 4] ++ [])) := by kernel_rfl
theorem r25_o : (opsOf (itemN c25 6))[2]? = some (opAt (itemN c25 6) 2) := by kernel_rfl
theorem r25_g : (opAt (itemN c25 6) 2).guard = none := by kernel_rfl
theorem r25_d : (opAt (itemN c25 6) 2).dst = some 19 := by kernel_rfl
theorem r25_p : (opAt (itemN c25 6) 2).op = .call ⟨.value (.func 31), #[.tmp 18], #[26]⟩ := by kernel_rfl
theorem enters31 : Go.Ab.Enters Tryd.prog 31 := ⟨_, Tryd.func31, by kernel_rfl, by kernel_rfl⟩
def zeroOb : Ob := ⟨0, 0, false, false, fun _ => 0, 0, 0, fun _ => 0, fun _ => 0⟩
abbrev ptO (i : Nat) : Value := .pointer (some ⟨i, 0, some 87⟩)
abbrev boxO (l : List Value) : Option AObj := some ⟨l, false, 1, false⟩
section
variable (zz : Bool) (M : Mem) (b off c B : Nat) (o : Ob) (z : Nat → Value) (v : Value)
theorem o25a : viewU [1, 2, 3] (evL Tryd.prog M (ovX Tryd.prog M) [] [] [I30 M] [] 2000 [itemN c25 0, itemN c25 1, itemN c25 2, itemN c25 3, itemN c25 4, itemN c25 5] ⟨[.agg ⟨obC o (eA zz b off c)⟩] ++ List.replicate (Tryd.f25.ntmps - 1) undef, []⟩ [])
   = some (.normal, [ptO 0, ptO 1, ptO 2], [boxO (obC o (eA zz b off c)), boxO (obC zeroOb (.slice none 0 0)), boxO (obC { o with cl := 0, chain := fun _ => 0, hash := fun _ => 0 } (.slice none 0 0))], Tryd.f25.ntmps, []) := by cases zz <;> kernel_rfl
abbrev h25 (zz : Bool) (b off c : Nat) (o : Ob) : AHeap := [boxO (obC o (eA zz b off c)), boxO (obC zeroOb (.slice none 0 0)), boxO (obC { o with cl := 0, chain := fun _ => 0, hash := fun _ => 0 } (.slice none 0 0))]
theorem o25b : viewR [1, 2, 3, 18] (rruns Tryd.prog M (fnsC []) (fun l => l) (opsOf (itemN c25 6)) [0, 1] ⟨mkT Tryd.f25.ntmps [1, 2, 3] [ptO 0, ptO 1, ptO 2] z, h25 zz b off c o⟩)
   = some ([ptO 0, ptO 1, ptO 2, eA zz b off c], h25 zz b off c o, Tryd.f25.ntmps) := by cases zz <;> kernel_rfl
theorem o25c : lookT (aput (mkT Tryd.f25.ntmps [1, 2, 3, 18] [ptO 0, ptO 1, ptO 2, eA zz b off c] z) (some 19) v) [1, 2, 3, 19] = [ptO 0, ptO 1, ptO 2, v] := by cases zz <;> kernel_rfl
theorem o25d : viewR [1, 2, 3] (rruns Tryd.prog M (fnsC []) (fun l => l) (opsOf (itemN c25 6)) [3, 4] ⟨mkT Tryd.f25.ntmps [1, 2, 3, 19] [ptO 0, ptO 1, ptO 2, .slice (some ⟨B, 0, none⟩) 0 0] z, h25 zz b off c o⟩)
   = some ([ptO 0, ptO 1, ptO 2], [boxO (obC o (eA zz b off c)), boxO (obC zeroOb (.slice none 0 0)), boxO (obC { o with cl := 0, chain := fun _ => 0, hash := fun _ => 0 } (.slice (some ⟨B, 0, none⟩) 0 0))], Tryd.f25.ntmps) := by cases zz <;> kernel_rfl
theorem o25e : viewU [2] (evL Tryd.prog M (ovX Tryd.prog M) [] [] [sameSum 32 32] [] 2000 [itemN c25 7, itemN c25 8, itemN c25 9, itemN c25 10, itemN c25 11] ⟨mkT Tryd.f25.ntmps [1, 2, 3] [ptO 0, ptO 1, ptO 2] z, [boxO (obC o (eA zz b off c)), boxO (obC zeroOb (.slice none 0 0)), boxO (obC { o with cl := 0, chain := fun _ => 0, hash := fun _ => 0 } (.slice (some ⟨B, 0, none⟩) 0 0))]⟩ [])
   = some (.ret, [ptO 1], [boxO (obC o (eA zz b off c)), boxO (obC o (.slice (some ⟨B, 0, none⟩) 0 0)), boxO (obC o (.slice (some ⟨B, 0, none⟩) 0 0))], Tryd.f25.ntmps, []) := by cases zz <;> kernel_rfl
end
theorem toObE {zz : Bool} {M : Mem} {b off c : Nat} {o : Ob} : ACallsG Tryd.prog M 25 [.agg ⟨obC o (eA zz b off c)⟩] [] fun v os' ns _ => os' = [] ∧ ns = [] ∧ ∃ B, v = .agg ⟨obC o (.slice (some ⟨B, 0, none⟩) 0 0)⟩ := by
  refine acallsG_of_at Tryd.func25 body25 fun O a w hO hat => ?_
  refine wp_items c25 ?_
  rw [items25]
  show wpL Tryd.prog _ ([itemN c25 0, itemN c25 1, itemN c25 2, itemN c25 3, itemN c25 4, itemN c25 5] ++ [itemN c25 6, itemN c25 7, itemN c25 8, itemN c25 9, itemN c25 10, itemN c25 11]) a w
  refine hat.items (ovX_ok _ _) (consC (I30s M).c nilC) mix (fun c _ => hooksOk_nil c) (o25a zz M b off c o) (fun x hx => by cases hx) rfl (fun _ a1 w1 h1 => ?_) fun hne => absurd rfl hne
  show (itemN c25 6).wp Tryd.prog (Exit.then (wpL Tryd.prog _ [itemN c25 7, itemN c25 8, itemN c25 9, itemN c25 10, itemN c25 11]) _) a1 w1
  refine wp_rgn r25_f r25_r ?_
  refine h1.ops (K := fnsC []) (cl := fun l => l) (fnsC_sound nilC) (fun z => o25b zz M b off c o z) rfl fun a2 w2 h2 => ?_
  refine h2.callG (L := []) r25_o r25_g r25_p (fun z => by kernel_rfl) enters31 (us := [eA zz b off c]) (fun z => by cases zz <;> kernel_rfl) rfl (objs := []) rfl rfl (largs := [eA zz b off c]) (by cases zz <;> rfl) (R := fun v _ => ∃ B, v = .slice (some ⟨B, 0, none⟩) 0 0) (fun v g hR => by obtain ⟨B, rfl⟩ := hR; rfl) (toByteE (zz := zz) (b := b) (off := off) (c := c)) rfl (live' := [1, 2, 3, 19]) (V' := fun v => [ptO 0, ptO 1, ptO 2, v]) (fun z v => by rw [r25_d]; exact o25c zz b off c z v) fun v g1 w3 hR h3 => ?_
  obtain ⟨B, rfl⟩ := hR
  refine h3.ops (K := fnsC []) (cl := fun l => l) (fnsC_sound nilC) (fun z => o25d zz M b off c B o z) rfl fun a4 w4 h4 => ?_
  show wpL Tryd.prog _ ([itemN c25 7, itemN c25 8, itemN c25 9, itemN c25 10, itemN c25 11] ++ []) a4 w4
  refine h4.items (ovX_ok _ _) (consC (same32 M).c nilC) mix (fun c _ => hooksOk_nil c) (fun z => o25e zz M b off c B o z) (fun x hx => by cases hx) rfl (fun he => by cases he) fun _ a5 w5 h5 => ?_
  obtain ⟨z, h5⟩ := h5
  exact ⟨.inr rfl, _, _, _, .agg ⟨obC o (.slice (some ⟨B, 0, none⟩) 0 0)⟩, [], [], h5, by kernel_rfl, rfl, rfl, B, rfl⟩
end Go.Proofs.YtfkdcpinajnbfaaDoor
