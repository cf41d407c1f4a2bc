/- toByteS and toObs where what an observation sends is an empty slice of an unknown place: it stands for a slice of some object.
   Conditions: none. -/
import Derived.Test.YtfkdcpinajnbfaaDoorObs
open Go.Ab Go.Num
set_option linter.unusedVariables false
set_option linter.unusedSimpArgs false
namespace Go.Proofs.YtfkdcpinajnbfaaDoor
set_option maxRecDepth 100000
/-- An empty slice, as one of object 0. -/
abbrev oA (S : Nat) : Value := .slice (some ⟨0, 0, some S⟩) 0 0
abbrev oO (ob : List Value) (gr : Bool) (es : Nat) : Option AObj := some ⟨ob, gr, es, true⟩
section
variable (ob : List Value) (gr : Bool) (es : Nat) (S : Nat) (M : Mem) (B : Nat) (z : Nat → Value)
theorem o31a : viewU [0] (evL Tryd.prog M (ovX Tryd.prog M) [] [] [] [] 200 [itemN c31 0] ⟨[oA S] ++ List.replicate (Tryd.f31.ntmps - 1) undef, [oO ob gr es]⟩ [])
   = some (.normal, [oA S], [oO ob gr es], Tryd.f31.ntmps, []) := by kernel_rfl
theorem o31z : viewU [2] (evL Tryd.prog M (ovX Tryd.prog M) [] [] [] [] 200 [itemN c31 2, .block 0 (.loop loopT), itemN c31 4, itemN c31 5] ⟨mkT Tryd.f31.ntmps [0, 3] [oA S, .slice (some ⟨B, 0, none⟩) 0 0] z, [oO ob gr es]⟩ [])
   = some (.ret, [.slice (some ⟨B, 0, none⟩) 0 0], [oO ob gr es], Tryd.f31.ntmps, []) := by kernel_rfl
theorem o31b (z : Nat → Value) : viewR [0, 6] (rruns Tryd.prog M (fnsC []) (fun l => l) (opsOf (itemN c31 1)) [0, 1] ⟨mkT Tryd.f31.ntmps [0] [oA S] z, [oO ob gr es]⟩)
   = some ([oA S, .int .i64 0], [oO ob gr es], Tryd.f31.ntmps) := by kernel_rfl
theorem o31c (z : Nat → Value) (v : Value) : lookT (aput (mkT Tryd.f31.ntmps [0, 6] [oA S, .int .i64 0] z) (some 7) v) [0, 7] = [oA S, v] := by kernel_rfl
theorem o31d (z : Nat → Value) (v : Value) : viewR [0, 3] (rruns Tryd.prog M (fnsC []) (fun l => l) (opsOf (itemN c31 1)) [3] ⟨mkT Tryd.f31.ntmps [0, 7] [oA S, v] z, [oO ob gr es]⟩)
   = some ([oA S, v], [oO ob gr es], Tryd.f31.ntmps) := by kernel_rfl
end
/-- An empty slice's copy: the slice is plain. -/
theorem toByteW {M : Mem} {S : Nat} {ob : List Value} {gr : Bool} {es : Nat} : ACallsG Tryd.prog M 31 [oA S] [⟨ob, gr, es, true⟩] fun v os' ns _ => os' = [⟨ob, gr, es, true⟩] ∧ ns = [] ∧ ∃ B, v = .slice (some ⟨B, 0, none⟩) 0 0 := by
  refine acallsG_of_at Tryd.func31 body31 fun O a w hO hat => ?_
  refine wp_items c31 ?_
  rw [items31]
  show wpL Tryd.prog _ ([itemN c31 0] ++ [itemN c31 1, itemN c31 2, .block 0 (.loop loopT), itemN c31 4, itemN c31 5]) a w
  refine hat.items (ovX_ok _ _) nilC mix (fun c _ => hooksOk_nil c) (o31a ob gr es S M) (fun x hx => by cases hx) rfl (fun _ a1 w1 h1 => ?_) fun hne => absurd rfl hne
  show (itemN c31 1).wp Tryd.prog (Exit.then (wpL Tryd.prog _ [itemN c31 2, .block 0 (.loop loopT), itemN c31 4, itemN c31 5]) _) a1 w1
  refine wp_rgn mk31_f mk31_r ?_
  refine h1.ops (K := fnsC []) (cl := fun l => l) (fnsC_sound nilC) (fun z => o31b ob gr es S M z) rfl fun a2 w2 h2 => ?_
  have e1 : a2.eval (.tmp 6) = .int .i64 0 := h2.eval (fun z => by kernel_rfl) rfl
  refine wpOps_value mk31_o mk31_g (ex_makeE mk31_p (by rw [e1]; exact mkE w2)) ?_
  rw [mk31_d]
  have h3 := (h2.alloc (g' := fun _ _ => False) (.cells #[] 5) (fun b x hx => hx.elim)).put (some 7) (v := .slice (some ⟨w2.heap.size, 0, none⟩) 0 0) rfl (fun z => o31c S z _)
  refine h3.ops (K := fnsC []) (cl := fun l => l) (fnsC_sound nilC) (fun z => o31d ob gr es S M z _) rfl fun a4 w4 h4 => ?_
  show wpL Tryd.prog _ ([itemN c31 2, .block 0 (.loop loopT), itemN c31 4, itemN c31 5] ++ []) a4 w4
  refine h4.items (ovX_ok _ _) nilC mix (fun c _ => hooksOk_nil c) (fun z => o31z ob gr es S M _ z) (fun x hx => by cases hx) rfl (fun he => by cases he) fun _ a5 w5 h5 => ?_
  obtain ⟨z, h5⟩ := h5
  exact ⟨.inr rfl, _, _, _, .slice (some ⟨w2.heap.size, 0, none⟩) 0 0, [⟨ob, gr, es, true⟩], [], h5, by kernel_rfl, rfl, rfl, w2.heap.size, rfl⟩
section
variable (ob : List Value) (gr : Bool) (es : Nat) (S : Nat) (M : Mem) (B : Nat) (o : Ob) (z : Nat → Value) (v : Value)
theorem w25a : viewU [1, 2, 3] (evL Tryd.prog M (ovX Tryd.prog M) [] [] [I30 M] [] 2000 [itemN c25 0, itemN c25 1, itemN c25 2, itemN c25 3, itemN c25 4, itemN c25 5] ⟨[.agg ⟨obC o (oA S)⟩] ++ List.replicate (Tryd.f25.ntmps - 1) undef, [oO ob gr es]⟩ [])
   = some (.normal, [ptO 1, ptO 2, ptO 3], [oO ob gr es, boxO (obC o (oA S)), boxO (obC zeroOb (.slice none 0 0)), boxO (obC { o with cl := 0, chain := fun _ => 0, hash := fun _ => 0 } (.slice none 0 0))], Tryd.f25.ntmps, []) := by kernel_rfl
abbrev hw25 (ob : List Value) (gr : Bool) (es S : Nat) (o : Ob) : AHeap := [oO ob gr es, boxO (obC o (oA S)), boxO (obC zeroOb (.slice none 0 0)), boxO (obC { o with cl := 0, chain := fun _ => 0, hash := fun _ => 0 } (.slice none 0 0))]
theorem w25b : viewR [1, 2, 3, 18] (rruns Tryd.prog M (fnsC []) (fun l => l) (opsOf (itemN c25 6)) [0, 1] ⟨mkT Tryd.f25.ntmps [1, 2, 3] [ptO 1, ptO 2, ptO 3] z, hw25 ob gr es S o⟩)
   = some ([ptO 1, ptO 2, ptO 3, oA S], hw25 ob gr es S o, Tryd.f25.ntmps) := by kernel_rfl
theorem w25c : lookT (aput (mkT Tryd.f25.ntmps [1, 2, 3, 18] [ptO 1, ptO 2, ptO 3, oA S] z) (some 19) v) [1, 2, 3, 19] = [ptO 1, ptO 2, ptO 3, v] := by kernel_rfl
theorem w25d : viewR [1, 2, 3] (rruns Tryd.prog M (fnsC []) (fun l => l) (opsOf (itemN c25 6)) [3, 4] ⟨mkT Tryd.f25.ntmps [1, 2, 3, 19] [ptO 1, ptO 2, ptO 3, .slice (some ⟨B, 0, none⟩) 0 0] z, hw25 ob gr es S o⟩)
   = some ([ptO 1, ptO 2, ptO 3], [oO ob gr es, boxO (obC o (oA S)), boxO (obC zeroOb (.slice none 0 0)), boxO (obC { o with cl := 0, chain := fun _ => 0, hash := fun _ => 0 } (.slice (some ⟨B, 0, none⟩) 0 0))], Tryd.f25.ntmps) := by kernel_rfl
theorem w25e : viewU [2] (evL Tryd.prog M (ovX Tryd.prog M) [] [] [sameSum 32 32] [] 2000 [itemN c25 7, itemN c25 8, itemN c25 9, itemN c25 10, itemN c25 11] ⟨mkT Tryd.f25.ntmps [1, 2, 3] [ptO 1, ptO 2, ptO 3] z, [oO ob gr es, boxO (obC o (oA S)), boxO (obC zeroOb (.slice none 0 0)), boxO (obC { o with cl := 0, chain := fun _ => 0, hash := fun _ => 0 } (.slice (some ⟨B, 0, none⟩) 0 0))]⟩ [])
   = some (.ret, [ptO 2], [oO ob gr es, boxO (obC o (oA S)), boxO (obC o (.slice (some ⟨B, 0, none⟩) 0 0)), boxO (obC o (.slice (some ⟨B, 0, none⟩) 0 0))], Tryd.f25.ntmps, []) := by kernel_rfl
end
theorem toObW {M : Mem} {S : Nat} {ob : List Value} {gr : Bool} {es : Nat} {o : Ob} : ACallsG Tryd.prog M 25 [.agg ⟨obC o (oA S)⟩] [⟨ob, gr, es, true⟩] fun v os' ns _ => os' = [⟨ob, gr, es, true⟩] ∧ ns = [] ∧ ∃ B, v = .agg ⟨obC o (.slice (some ⟨B, 0, none⟩) 0 0)⟩ := by
  refine acallsG_of_at Tryd.func25 body25 fun O a w hO hat => ?_
  refine wp_items c25 ?_
  rw [items25]
  show wpL Tryd.prog _ ([itemN c25 0, itemN c25 1, itemN c25 2, itemN c25 3, itemN c25 4, itemN c25 5] ++ [itemN c25 6, itemN c25 7, itemN c25 8, itemN c25 9, itemN c25 10, itemN c25 11]) a w
  refine hat.items (ovX_ok _ _) (consC (I30s M).c nilC) mix (fun c _ => hooksOk_nil c) (w25a ob gr es S M o) (fun x hx => by cases hx) rfl (fun _ a1 w1 h1 => ?_) fun hne => absurd rfl hne
  show (itemN c25 6).wp Tryd.prog (Exit.then (wpL Tryd.prog _ [itemN c25 7, itemN c25 8, itemN c25 9, itemN c25 10, itemN c25 11]) _) a1 w1
  refine wp_rgn r25_f r25_r ?_
  refine h1.ops (K := fnsC []) (cl := fun l => l) (fnsC_sound nilC) (fun z => w25b ob gr es S M o z) rfl fun a2 w2 h2 => ?_
  refine h2.callG (L := [0]) r25_o r25_g r25_p (fun z => by kernel_rfl) enters31 (us := [oA S]) (fun z => by kernel_rfl) rfl (objs := [⟨ob, gr, es, true⟩]) (lo := [⟨ob, gr, es, true⟩]) rfl (by kernel_rfl) (largs := [oA S]) (by kernel_rfl) (R := fun v _ => ∃ B, v = .slice (some ⟨B, 0, none⟩) 0 0) (fun v g hR => by obtain ⟨B, rfl⟩ := hR; rfl) (toByteW (S := S) (ob := ob) (gr := gr) (es := es)) rfl (live' := [1, 2, 3, 19]) (V' := fun v => [ptO 1, ptO 2, ptO 3, v]) (fun z v => by rw [r25_d]; exact w25c S z v) fun v g1 w3 hR h3 => ?_
  obtain ⟨B, rfl⟩ := hR
  refine h3.ops (K := fnsC []) (cl := fun l => l) (fnsC_sound nilC) (fun z => w25d ob gr es S M B o z) rfl fun a4 w4 h4 => ?_
  show wpL Tryd.prog _ ([itemN c25 7, itemN c25 8, itemN c25 9, itemN c25 10, itemN c25 11] ++ []) a4 w4
  refine h4.items (ovX_ok _ _) (consC (same32 M).c nilC) mix (fun c _ => hooksOk_nil c) (fun z => w25e ob gr es S M B o z) (fun x hx => by cases hx) rfl (fun he => by cases he) fun _ a5 w5 h5 => ?_
  obtain ⟨z, h5⟩ := h5
  exact ⟨.inr rfl, _, _, _, .agg ⟨obC o (.slice (some ⟨B, 0, none⟩) 0 0)⟩, [⟨ob, gr, es, true⟩], [], h5, by kernel_rfl, rfl, rfl, B, rfl⟩
end Go.Proofs.YtfkdcpinajnbfaaDoor
