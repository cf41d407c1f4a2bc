/- toByteS of an empty slice: a slice whose address is known.
   Conditions: none. -/
import Derived.Test.YtfkdcpinajnbfaaDoorSmall
import Derived.Test.YtfkdcpinajnbfaaDoorAbD
import Derived.Laws.MakeOwn
open Go.Ab Go.Num
set_option linter.unusedVariables false
set_option linter.unusedSimpArgs false
namespace Go.Proofs.YtfkdcpinajnbfaaDoor
set_option maxRecDepth 100000
noncomputable def opAt (c : Code) (i : Nat) : Oper := ((opsOf c)[i]?).getD ⟨none, .move (.tmp 0), 0, "", #[], none⟩
noncomputable def c31 : Code := Tryd.f31.body.getD .skip
theorem body31 : Tryd.f31.body = some c31 := by kernel_rfl
theorem items31 : items c31 = [itemN c31 0, itemN c31 1, itemN c31 2, .block 0 (.loop loopT), itemN c31 4, itemN c31 5] := by kernel_rfl
theorem mk31_f : drawOf (itemN c31 1) = false := by kernel_rfl
theorem mk31_r : List.range (opsOf (itemN c31 1)).size = [0, 1] ++ (2 :: ([3] ++ [])) := by kernel_rfl
theorem mk31_o : (opsOf (itemN c31 1))[2]? = some (opAt (itemN c31 1) 2) := by kernel_rfl
theorem mk31_g : (opAt (itemN c31 1) 2).guard = none := by kernel_rfl
theorem mk31_d : (opAt (itemN c31 1) 2).dst = some 7 := by kernel_rfl
theorem mk31_p : (opAt (itemN c31 1) 2).op = .makeSlice 26 (.tmp 6) (.tmp 6) := by kernel_rfl
/-- An empty slice: none, or one of memory. -/
def eA (zz : Bool) (b off c : Nat) : Value := bif zz then .slice none 0 0 else .slice (some ⟨b, off, none⟩) 0 c
section
variable (zz : Bool) (M : Mem) (b off c B : Nat) (z : Nat → Value)
theorem e31a : viewU [0] (evL Tryd.prog M (ovX Tryd.prog M) [] [] [] [] 200 [itemN c31 0] ⟨[eA zz b off c] ++ List.replicate (Tryd.f31.ntmps - 1) undef, []⟩ [])
   = some (.normal, [eA zz b off c], [], Tryd.f31.ntmps, []) := by cases zz <;> kernel_rfl
theorem e31z : viewU [2] (evL Tryd.prog M (ovX Tryd.prog M) [] [] [] [] 200 [itemN c31 2, .block 0 (.loop loopT), itemN c31 4, itemN c31 5] ⟨mkT Tryd.f31.ntmps [0, 3] [eA zz b off c, .slice (some ⟨B, 0, none⟩) 0 0] z, []⟩ [])
   = some (.ret, [.slice (some ⟨B, 0, none⟩) 0 0], [], Tryd.f31.ntmps, []) := by cases zz <;> kernel_rfl
theorem e31b (z : Nat → Value) : viewR [0, 6] (rruns Tryd.prog M (fnsC []) (fun l => l) (opsOf (itemN c31 1)) [0, 1] ⟨mkT Tryd.f31.ntmps [0] [eA zz b off c] z, []⟩)
   = some ([eA zz b off c, .int .i64 0], [], Tryd.f31.ntmps) := by cases zz <;> kernel_rfl
theorem e31c (z : Nat → Value) (v : Value) : lookT (aput (mkT Tryd.f31.ntmps [0, 6] [eA zz b off c, .int .i64 0] z) (some 7) v) [0, 7] = [eA zz b off c, v] := by cases zz <;> kernel_rfl
theorem e31d (z : Nat → Value) (v : Value) : viewR [0, 3] (rruns Tryd.prog M (fnsC []) (fun l => l) (opsOf (itemN c31 1)) [3] ⟨mkT Tryd.f31.ntmps [0, 7] [eA zz b off c, v] z, []⟩)
   = some ([eA zz b off c, v], [], Tryd.f31.ntmps) := by cases zz <;> kernel_rfl
end
theorem ex_makeE {o : Oper} {ρ : Operand → Value} {t : TypeId} {x y : Operand} (ho : o.op = .makeSlice t x y) {w w' : World} {v : Value} (h : (Instr.makeSlice t (ρ x) (ρ y)).run Tryd.prog w = .ok v w') : (execOp ρ o).run Tryd.prog w = .ok (.value v) w' := by
  simp only [execOp, ho]
  simp [Sem.run_bind, h, Result.andThen, Sem.run_pure]
theorem mkE (w : World) : (Instr.makeSlice 26 (.int .i64 0) (.int .i64 0)).run Tryd.prog w = .ok (.slice (some ⟨w.heap.size, 0, none⟩) 0 0) (w.alloc (.cells #[] 5)) := by kernel_rfl

/-- An empty slice's copy: the slice is plain. -/
theorem toByteE {zz : Bool} {M : Mem} {b off c : Nat} : ACallsG Tryd.prog M 31 [eA zz b off c] [] fun v os' ns _ => os' = [] ∧ ns = [] ∧ ∃ B, v = .slice (some ⟨B, 0, none⟩) 0 0 := by
  refine acallsG_of_at Tryd.func31 body31 fun O a w hO hat => ?_
  refine wp_items c31 ?_
  rw [items31]
  show wpL Tryd.prog _ ([itemN c31 0] ++ [itemN c31 1, itemN c31 2, .block 0 (.loop loopT), itemN c31 4, itemN c31 5]) a w
  refine hat.items (ovX_ok _ _) nilC mix (fun c _ => hooksOk_nil c) (e31a zz M b off c) (fun x hx => by cases hx) rfl (fun _ a1 w1 h1 => ?_) fun hne => absurd rfl hne
  show (itemN c31 1).wp Tryd.prog (Exit.then (wpL Tryd.prog _ [itemN c31 2, .block 0 (.loop loopT), itemN c31 4, itemN c31 5]) _) a1 w1
  refine wp_rgn mk31_f mk31_r ?_
  refine h1.ops (K := fnsC []) (cl := fun l => l) (fnsC_sound nilC) (fun z => e31b zz M b off c z) rfl fun a2 w2 h2 => ?_
  have e1 : a2.eval (.tmp 6) = .int .i64 0 := h2.eval (fun z => by kernel_rfl) rfl
  refine wpOps_value mk31_o mk31_g (ex_makeE mk31_p (by rw [e1]; exact mkE w2)) ?_
  rw [mk31_d]
  have h3 := (h2.alloc (g' := fun _ _ => False) (.cells #[] 5) (fun b x hx => hx.elim)).put (some 7) (v := .slice (some ⟨w2.heap.size, 0, none⟩) 0 0) rfl (fun z => e31c zz b off c z _)
  refine h3.ops (K := fnsC []) (cl := fun l => l) (fnsC_sound nilC) (fun z => e31d zz M b off c z _) rfl fun a4 w4 h4 => ?_
  show wpL Tryd.prog _ ([itemN c31 2, .block 0 (.loop loopT), itemN c31 4, itemN c31 5] ++ []) a4 w4
  refine h4.items (ovX_ok _ _) nilC mix (fun c _ => hooksOk_nil c) (fun z => e31z zz M b off c _ z) (fun x hx => by cases hx) rfl (fun he => by cases he) fun _ a5 w5 h5 => ?_
  obtain ⟨z, h5⟩ := h5
  exact ⟨.inr rfl, _, _, _, .slice (some ⟨w2.heap.size, 0, none⟩) 0 0, [], [], h5, by kernel_rfl, rfl, rfl, w2.heap.size, rfl⟩
end Go.Proofs.YtfkdcpinajnbfaaDoor
