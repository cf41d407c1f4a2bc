/- eqReport: two copies of a report are equal.
   Conditions: both lie in memory. -/
import Derived.Test.YtfkdcpinajnbfaaDoorImpl
import Derived.Test.YtfkdcpinajnbfaaDoorAbD
open Go.Ab Go.Num
set_option linter.unusedVariables false
set_option linter.unusedSimpArgs false
namespace Go.Proofs.YtfkdcpinajnbfaaDoor
set_option maxRecDepth 100000
noncomputable def fact (p : Prop) : Bool := @decide p (Classical.propDecidable p)
theorem fact_iff {p : Prop} : fact p = true ↔ p := by
  unfold fact
  exact @decide_eq_true_iff p (Classical.propDecidable p)
noncomputable def c8 : Code := Tryd.f8.body.getD .skip
theorem body8 : Tryd.f8.body = some c8 := by kernel_rfl
theorem items8 : items c8 = [itemN c8 0, itemN c8 1, itemN c8 2, itemN c8 3, .block 0 (.loop loop8), itemN c8 5, itemN c8 6] := by kernel_rfl
noncomputable def c22 : Code := Tryd.f22.body.getD .skip
noncomputable def loop22 : Code := loopOf 0 c22
theorem body22 : Tryd.f22.body = some c22 := by kernel_rfl
theorem items22 : items c22 = [itemN c22 0, itemN c22 1, itemN c22 2, itemN c22 3, .block 0 (.loop loop22), itemN c22 5, itemN c22 6] := by kernel_rfl
abbrev l015 : List Nat := [0, 1, 5]
section
variable (M : Mem) (b1 b2 n m1 m2 : Nat) (k : Int) (z : Nat → Value)
theorem e8a : viewU l015 (evL Tryd.prog M (ovN Tryd.prog M) [] [] [] [10] 200 [itemN c8 0, itemN c8 1, itemN c8 2, itemN c8 3] ⟨[roS b1 0 n m1, roS b2 0 n m2] ++ List.replicate (Tryd.f8.ntmps - 2) undef, []⟩ [false])
   = some (.normal, [roS b1 0 n m1, roS b2 0 n m2, .int .i64 0], [], Tryd.f8.ntmps, [((n : Int) != (n : Int), false)]) := by kernel_rfl
theorem e8s : viewU l015 (evL Tryd.prog M (ovN Tryd.prog M) [19, 20, 23, 24] [] [] [14, 25] 200 (items loop8) ⟨mkT Tryd.f8.ntmps l015 [roS b1 0 n m1, roS b2 0 n m2, .int .i64 k] z, []⟩ [true, false])
   = some (.normal, [roS b1 0 n m1, roS b2 0 n m2, .int .i64 (IntKind.wrap .i64 (k + 1))], [], Tryd.f8.ntmps,
      [(decide (k < (n : Int)), true), (inB k n, true), (roB .u8 M b1 (0 + k.toNat * 1), true), (inB k n, true), (roB .u8 M b2 (0 + k.toNat * 1), true), (vint ((M b1 (0 + k.toNat * 1)).getD undef) != vint ((M b2 (0 + k.toNat * 1)).getD undef), false)]) := by kernel_rfl
theorem e8x : viewU [] (evL Tryd.prog M (ovN Tryd.prog M) [] [] [] [14] 200 (items loop8) ⟨mkT Tryd.f8.ntmps l015 [roS b1 0 n m1, roS b2 0 n m2, .int .i64 k] z, []⟩ [false])
   = some (.exit 0, [], [], Tryd.f8.ntmps, [(decide (k < (n : Int)), false)]) := by kernel_rfl
theorem e8e : viewU [4] (evL Tryd.prog M (ovN Tryd.prog M) [] [] [] [] 200 [itemN c8 5, itemN c8 6] ⟨mkT Tryd.f8.ntmps [] [] z, []⟩ [])
   = some (.ret, [.bool true], [], Tryd.f8.ntmps, []) := by kernel_rfl
end
def sameRo (M : Mem) (b1 b2 n : Nat) : Prop := n ≤ 1048576 ∧ ∀ i, i < n → roB .u8 M b1 (0 + i) = true ∧ roB .u8 M b2 (0 + i) = true ∧ roN M b1 0 i = roN M b2 0 i
theorem eq8 {M : Mem} {b1 b2 n m1 m2 : Nat} (h : sameRo M b1 b2 n) : ACalls Tryd.prog M 8 [roS b1 0 n m1, roS b2 0 n m2] [] (.bool true) [] [] := by
  obtain ⟨hn, h⟩ := h
  refine acalls_of_at Tryd.func8 body8 rfl fun O a w hO hat => ?_
  refine wp_items c8 ?_
  rw [items8]
  show wpL Tryd.prog _ ([itemN c8 0, itemN c8 1, itemN c8 2, itemN c8 3] ++ [.block 0 (.loop loop8), itemN c8 5, itemN c8 6]) a w
  refine hat.items (ovI_ok _ _ _ _ _) nilC mix (fun c _ => hooksOk_nil c) (e8a M b1 b2 n m1 m2) (held_one (by simp)) rfl (fun _ a1 w1 h1 => ?_) fun hne => absurd rfl hne
  refine wpL_cons (R := fun a' w' => AtV M O Tryd.f8.ntmps [] [] [] [] (fun _ _ => False) a' w') (wp_block (wp_loop_idx (fun i a' w' => AtV M O Tryd.f8.ntmps l015 [roS b1 0 n m1, roS b2 0 n m2, .int .i64 i] [] [] (fun _ _ => False) a' w') n h1 (fun i a w hi hI => ?_) fun a w hI => ?_)) fun a2 w2 h2 => ?_
  · refine wp_items loop8 (wpL_end ?_)
    obtain ⟨h3, h4, h5⟩ := h i hi
    refine hI.items (ovI_ok _ _ _ _ _) nilC mix (fun c _ => hooksOk_nil c) (fun z => e8s M b1 b2 n m1 m2 i z) ?_ rfl (fun _ a3 w3 h3 => ?_) fun hne => absurd rfl hne
    · rw [Int.toNat_natCast, Nat.mul_one]
      exact held_cons (decide_eq_true (by omega)) (held_cons (by simp [inB]; omega) (held_cons h3 (held_cons (by simp [inB]; omega) (held_cons h4 (held_one (by
        show (roN M b1 0 i != roN M b2 0 i) = false
        rw [h5]; simp))))))
    · rw [nextC hi hn] at h3
      exact ⟨rfl, h3⟩
  · refine wp_items loop8 (wpL_end ?_)
    refine hI.items (ovI_ok _ _ _ _ _) nilC mix (fun c _ => hooksOk_nil c) (fun z => e8x M b1 b2 n m1 m2 n z) (held_one (decide_eq_false (by omega))) rfl (fun he => by cases he) fun _ a3 w3 h3 => ?_
    exact ⟨by simp [AExit.to], rfl, h3⟩
  · show wpL Tryd.prog _ ([itemN c8 5, itemN c8 6] ++ []) a2 w2
    refine h2.items (ovI_ok _ _ _ _ _) nilC mix (fun c _ => hooksOk_nil c) (fun z => e8e M z) (fun x hx => by cases hx) rfl (fun he => by cases he) fun _ a3 w3 h3 => ?_
    obtain ⟨z, h3⟩ := h3
    exact ⟨.inr rfl, _, _, _, .bool true, [], [], h3, by kernel_rfl, rfl, rfl, rfl⟩
/-- A known answer at known arguments. -/
noncomputable def conSum (f : FuncId) (args0 : List Value) (v : Value) (ns : List AObj) : Sum :=
  { f := f, ro := true
    S := fun args os => match os with
      | [] => some (v, [], ns)
      | _ => none
    C := fun args os => [(fact (args = args0), true)] }
theorem conSum_sound {M : Mem} {f : FuncId} {fn : Func} (hf : Tryd.prog.funcs[f]? = some fn) (hn : (fn.name == "runtime.NumGoroutine") = false) (hb : fn.body.isSome = true) {args0 : List Value} {v : Value} {ns : List AObj} (h : ACalls Tryd.prog M f args0 [] v [] ns) : (conSum f args0 v ns).SoundC Tryd.prog M := by
  refine sumC_sound hf hn hb fun args os v' os' ns' hs hp => ?_
  simp only [conSum] at hs hp ⊢
  split at hs
  · cases hs
    have := fact_iff.1 (hp (fact (args = args0), true) (List.Mem.head _))
    subst this
    exact ⟨h, fun _ => rfl⟩
  · cases hs
section
variable (M : Mem) (o : Ob) (p p' : Cp) (n : Nat)
abbrev src2 (o : Ob) : List Value := [.agg ⟨srcCells o.v6 o.addr o.port⟩, .agg ⟨srcCells o.v6 o.addr o.port⟩]
theorem e34 : evFU Tryd.prog M (ovN Tryd.prog M) [] [] [eqSum 41 16] [9, 15, 20] 400 Tryd.f34 (src2 o) [] [false, false, false]
   = some ((.bool true, [], []), [(o.v6 != o.v6, false), (!eqB (cellsI .u8 16 o.addr) (cellsI .u8 16 o.addr), false), (o.port != o.port, false)]) := by kernel_rfl
theorem eq34 : ACalls Tryd.prog M 34 (src2 o) [] (.bool true) [] [] :=
  acalls_of_evFU (ovI_ok _ _ _ _ _) (consC (eqA16 M).c nilC) mix Tryd.func34 (hooksOk_nil _) (e34 M o) (held_cons (by simp) (held_cons (by rw [Ab.eqB_cells]; rfl) (held_one (by simp))))
abbrev row2 (o : Ob) (p p' : Cp) (n : Nat) : List Value := [.agg ⟨obC o (p.sl n)⟩, .agg ⟨obC o (p'.sl n)⟩]
theorem e28 : evFU Tryd.prog M (ovN Tryd.prog M) [] [] [conSum 34 (src2 o) (.bool true) [], conSum 8 [p.sl n, p'.sl n] (.bool true) [], eqSum 35 32] [9, 14, 19, 36, 42, 48] 4000 Tryd.f28 (row2 o p p' n) [] [false, false, false, false, false, false]
   = some ((.bool true, [], []), [(o.vd != o.vd, false), (o.dh != o.dh, false), (o.ld != o.ld, false), (fact (src2 o = src2 o), true), (fact ([p.sl n, p'.sl n] = [p.sl n, p'.sl n]), true), (o.cl != o.cl, false), (!eqB (cellsI .u8 32 o.chain) (cellsI .u8 32 o.chain), false), (!eqB (cellsI .u8 32 o.hash) (cellsI .u8 32 o.hash), false)]) := by kernel_rfl
end
theorem eq28 {M : Mem} {o : Ob} {p p' : Cp} {n : Nat} (h : sameRo M p.b p'.b n) : ACalls Tryd.prog M 28 (row2 o p p' n) [] (.bool true) [] [] :=
  acalls_of_evFU (ovI_ok _ _ _ _ _) (consC (conSum_sound Tryd.func34 (by kernel_rfl) (by kernel_rfl) (eq34 M o)) (consC (conSum_sound Tryd.func8 (by kernel_rfl) (by kernel_rfl) (eq8 (m1 := p.c) (m2 := p'.c) h)) (consC (eqA32 M).c nilC))) mix Tryd.func28 (hooksOk_nil _) (e28 M o p p' n)
    (held_cons (by simp) (held_cons (by simp) (held_cons (by simp) (held_cons (fact_iff.2 rfl) (held_cons (fact_iff.2 rfl) (held_cons (by simp) (held_cons (by rw [Ab.eqB_cells]; rfl) (held_one (by rw [Ab.eqB_cells]; rfl)))))))))

/-! ### Rows -/
def pick19 (u v : List Value) (k : Nat) : List Value := bif Nat.beq k 19 then u else v
section
variable (M : Mem) (b1 b2 n m1 m2 c1 c2 B1 B2 m : Nat) (k : Int) (z : Nat → Value) (o : Ob)
theorem e22a : viewU l015 (evL Tryd.prog M (ovN Tryd.prog M) [] [] [] [10] 200 [itemN c22 0, itemN c22 1, itemN c22 2, itemN c22 3] ⟨[roS b1 0 n m1, roS b2 0 n m2] ++ List.replicate (Tryd.f22.ntmps - 2) undef, []⟩ [false])
   = some (.normal, [roS b1 0 n m1, roS b2 0 n m2, .int .i64 0], [], Tryd.f22.ntmps, [((n : Int) != (n : Int), false)]) := by kernel_rfl
theorem e22s : viewU l015 (evL Tryd.prog M (ovH 45 (pick19 (obC o (cpS B1 m c1)) (obC o (cpS B2 m c2))) Tryd.prog M) [19, 20, 23, 24] [] [conSum 28 (row2 o ⟨B1, c1⟩ ⟨B2, c2⟩ m) (.bool true) []] [14] 400 (items loop22) ⟨mkT Tryd.f22.ntmps l015 [roS b1 0 n m1, roS b2 0 n m2, .int .i64 k] z, []⟩ [true])
   = some (.normal, [roS b1 0 n m1, roS b2 0 n m2, .int .i64 (IntKind.wrap .i64 (k + 1))], [], Tryd.f22.ntmps,
      [(decide (k < (n : Int)), true), (inB k n, true), (rowB M b1 (0 + k.toNat * 87) (obC o (cpS B1 m c1)), true), (inB k n, true), (rowB M b2 (0 + k.toNat * 87) (obC o (cpS B2 m c2)), true), (fact (row2 o ⟨B1, c1⟩ ⟨B2, c2⟩ m = row2 o ⟨B1, c1⟩ ⟨B2, c2⟩ m), true)]) := by kernel_rfl
theorem e22x : viewU [] (evL Tryd.prog M (ovN Tryd.prog M) [] [] [] [14] 200 (items loop22) ⟨mkT Tryd.f22.ntmps l015 [roS b1 0 n m1, roS b2 0 n m2, .int .i64 k] z, []⟩ [false])
   = some (.exit 0, [], [], Tryd.f22.ntmps, [(decide (k < (n : Int)), false)]) := by kernel_rfl
theorem e22e : viewU [4] (evL Tryd.prog M (ovN Tryd.prog M) [] [] [] [] 200 [itemN c22 5, itemN c22 6] ⟨mkT Tryd.f22.ntmps [] [] z, []⟩ [])
   = some (.ret, [.bool true], [], Tryd.f22.ntmps, []) := by kernel_rfl
end
theorem eq22 {M M0 : Mem} {q q' : Cp} {R : List Row} {L L' : List Cp} (h : RepAt M M0 q R L) (h' : RepAt M M0 q' R L') : ACalls Tryd.prog M 22 [roS q.b 0 R.length q.c, roS q'.b 0 R.length q'.c] [] (.bool true) [] [] := by
  refine acalls_of_at Tryd.func22 body22 rfl fun O a w hO hat => ?_
  refine wp_items c22 ?_
  rw [items22]
  show wpL Tryd.prog _ ([itemN c22 0, itemN c22 1, itemN c22 2, itemN c22 3] ++ [.block 0 (.loop loop22), itemN c22 5, itemN c22 6]) a w
  refine hat.items (ovI_ok _ _ _ _ _) nilC mix (fun c _ => hooksOk_nil c) (e22a M q.b q'.b R.length q.c q'.c) (held_one (by simp)) rfl (fun _ a1 w1 h1 => ?_) fun hne => absurd rfl hne
  refine wpL_cons (R := fun a' w' => AtV M O Tryd.f22.ntmps [] [] [] [] (fun _ _ => False) a' w') (wp_block (wp_loop_idx (fun i a' w' => AtV M O Tryd.f22.ntmps l015 [roS q.b 0 R.length q.c, roS q'.b 0 R.length q'.c, .int .i64 i] [] [] (fun _ _ => False) a' w') R.length h1 (fun i a w hi hI => ?_) fun a w hI => ?_)) fun a2 w2 h2 => ?_
  · refine wp_items loop22 (wpL_end ?_)
    obtain ⟨r, hr⟩ : ∃ r, R[i]? = some r := ⟨_, List.getElem?_eq_getElem hi⟩
    obtain ⟨p, hp⟩ : ∃ p, L[i]? = some p := ⟨_, List.getElem?_eq_getElem (by rw [h.len]; exact hi)⟩
    obtain ⟨p', hp'⟩ : ∃ p', L'[i]? = some p' := ⟨_, List.getElem?_eq_getElem (by rw [h'.len]; exact hi)⟩
    obtain ⟨a1', a2', _, a3', a4'⟩ := h.row i r p hr hp
    obtain ⟨b1', b2', _, b3', b4'⟩ := h'.row i r p' hr hp'
    have hs : sameRo M p.b p'.b r.2.len := by
      simp only [hexRoB, Bool.and_eq_true, List.all_eq_true, List.mem_range] at a2' b2'
      exact ⟨a3', fun j hj => ⟨a2'.2.1 j hj, b2'.2.1 j hj, by rw [a4' j hj, b4' j hj]⟩⟩
    refine hI.items (ovH_ok _ _ _ _) (consC (conSum_sound Tryd.func28 (by kernel_rfl) (by kernel_rfl) (eq28 (o := r.1) (p := ⟨p.b, p.c⟩) (p' := ⟨p'.b, p'.c⟩) hs)) nilC) mix (fun c _ => hooksOk_nil c) (fun z => e22s M q.b q'.b R.length q.c q'.c p.c p'.c p.b p'.b r.2.len i z r.1) ?_ rfl (fun _ a3 w3 h3 => ?_) fun hne => absurd rfl hne
    · rw [Int.toNat_natCast]
      exact held_cons (decide_eq_true (by omega)) (held_cons (by simp [inB]; omega) (held_cons (rowB_iff.2 a1') (held_cons (by simp [inB]; omega) (held_cons (rowB_iff.2 b1') (held_one (fact_iff.2 rfl))))))
    · rw [nextC hi h.small] at h3
      exact ⟨rfl, h3⟩
  · refine wp_items loop22 (wpL_end ?_)
    refine hI.items (ovI_ok _ _ _ _ _) nilC mix (fun c _ => hooksOk_nil c) (fun z => e22x M q.b q'.b R.length q.c q'.c R.length z) (held_one (decide_eq_false (by omega))) rfl (fun he => by cases he) fun _ a3 w3 h3 => ?_
    exact ⟨by simp [AExit.to], rfl, h3⟩
  · show wpL Tryd.prog _ ([itemN c22 5, itemN c22 6] ++ []) a2 w2
    refine h2.items (ovI_ok _ _ _ _ _) nilC mix (fun c _ => hooksOk_nil c) (fun z => e22e M z) (fun x hx => by cases hx) rfl (fun he => by cases he) fun _ a3 w3 h3 => ?_
    obtain ⟨z, h3⟩ := h3
    exact ⟨.inr rfl, _, _, _, .bool true, [], [], h3, by kernel_rfl, rfl, rfl, rfl⟩
section
variable (M : Mem) (q q' : Cp) (n : Nat) (dh code : Int)
abbrev rep2 (q q' : Cp) (n : Nat) (dh code : Int) : List Value := [.agg ⟨repL (q.sl n) dh code⟩, .agg ⟨repL (q'.sl n) dh code⟩]
theorem e9 : evFU Tryd.prog M (ovN Tryd.prog M) [] [] [conSum 22 [q.sl n, q'.sl n] (.bool true) []] [15, 20] 400 Tryd.f9 (rep2 q q' n dh code) [] [false, false]
   = some ((.bool true, [], []), [(fact ([q.sl n, q'.sl n] = [q.sl n, q'.sl n]), true), (dh != dh, false), (code != code, false)]) := by kernel_rfl
end
theorem eq9 {M M0 : Mem} {q q' : Cp} {R : List Row} {L L' : List Cp} {dh code : Int} (h : RepAt M M0 q R L) (h' : RepAt M M0 q' R L') : ACalls Tryd.prog M 9 (rep2 q q' R.length dh code) [] (.bool true) [] [] :=
  acalls_of_evFU (ovI_ok _ _ _ _ _) (consC (conSum_sound Tryd.func22 (by kernel_rfl) (by kernel_rfl) (eq22 h h')) nilC) mix Tryd.func9 (hooksOk_nil _) (e9 M q q' R.length dh code) (held_cons (fact_iff.2 rfl) (held_cons (by simp) (held_one (by simp))))
end Go.Proofs.YtfkdcpinajnbfaaDoor
