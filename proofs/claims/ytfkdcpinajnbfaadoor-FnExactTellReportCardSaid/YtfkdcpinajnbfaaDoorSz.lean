/- szReport: how much a report holds, or less than nothing.
   Conditions: the report lies in memory. -/
import Derived.Test.YtfkdcpinajnbfaaDoorEqR
open Go.Ab Go.Num
set_option linter.unusedVariables false
set_option linter.unusedSimpArgs false
namespace Go.Proofs.YtfkdcpinajnbfaaDoor
set_option maxRecDepth 100000
abbrev L20 : Int := 1048576
noncomputable def c13 : Code := Tryd.f13.body.getD .skip
noncomputable def loop13 : Code := loopOf 0 c13
noncomputable def b13 : Code := inner (itemN loop13 2)
theorem body13 : Tryd.f13.body = some c13 := by kernel_rfl
theorem items13 : items c13 = [itemN c13 0, itemN c13 1, itemN c13 2, itemN c13 3, itemN c13 4, .block 0 (.loop loop13), itemN c13 6, itemN c13 7] := by kernel_rfl
theorem itemsL13 : items loop13 = [itemN loop13 0, itemN loop13 1, .block 1 b13, itemN loop13 3] := by kernel_rfl
theorem itemsB13 : items b13 = [itemN b13 0, itemN b13 1, itemN b13 2] := by kernel_rfl
def subF (l : Int) (n : Nat) : Int := if l - (n : Int) < 0 then -1 else l - n
section
variable (ob : List Value) (gr : Bool) (es : Nat) (M : Mem) (s : Out) (l v dh code : Int) (o : Ob) (k : Int) (z : Nat → Value)
theorem e29n : evFU Tryd.prog M (ovN Tryd.prog M) [] [] [] [10] 200 Tryd.f29 [s.sl, .int .i64 l] [] [true] = some ((.int .i64 (-1), [], []), [(decide (IntKind.i64.wrap (l - s.len) < 0), true)]) := by obtain ⟨zz, b, off, n, c⟩ := s; cases zz <;> kernel_rfl
theorem e29p : evFU Tryd.prog M (ovN Tryd.prog M) [] [] [] [10] 200 Tryd.f29 [s.sl, .int .i64 l] [] [false] = some ((.int .i64 (IntKind.i64.wrap (l - s.len)), [], []), [(decide (IntKind.i64.wrap (l - s.len) < 0), false)]) := by obtain ⟨zz, b, off, n, c⟩ := s; cases zz <;> kernel_rfl
theorem e24n : evFU Tryd.prog M (ovN Tryd.prog M) [] [] [conSum 29 [s.sl, .int .i64 l] (.int .i64 v) []] [10] 200 Tryd.f24 [.agg ⟨obC o s.sl⟩, .int .i64 l] [] [true] = some ((.int .i64 (-1), [], []), [(fact ([s.sl, .int .i64 l] = [s.sl, .int .i64 l]), true), (decide (v < 0), true)]) := by obtain ⟨zz, b, off, n, c⟩ := s; cases zz <;> kernel_rfl
theorem e24p : evFU Tryd.prog M (ovN Tryd.prog M) [] [] [conSum 29 [s.sl, .int .i64 l] (.int .i64 v) []] [10] 200 Tryd.f24 [.agg ⟨obC o s.sl⟩, .int .i64 l] [] [false] = some ((.int .i64 v, [], []), [(fact ([s.sl, .int .i64 l] = [s.sl, .int .i64 l]), true), (decide (v < 0), false)]) := by obtain ⟨zz, b, off, n, c⟩ := s; cases zz <;> kernel_rfl
abbrev live13 : List Nat := [0, 1, 5]
theorem e13n : viewU [4] (evL Tryd.prog M (ovN Tryd.prog M) [] [] [] [11] 200 [itemN c13 0, itemN c13 1, itemN c13 2, itemN c13 3] ⟨[s.sl, .int .i64 l] ++ List.replicate (Tryd.f13.ntmps - 2) undef, [oO ob gr es]⟩ [true])
   = some (.ret, [.int .i64 (-1)], [oO ob gr es], Tryd.f13.ntmps, [(decide (IntKind.i64.wrap (l - s.len) < 0), true)]) := by obtain ⟨zz, b, off, n, c⟩ := s; cases zz <;> kernel_rfl
theorem e13p : viewU live13 (evL Tryd.prog M (ovN Tryd.prog M) [] [] [] [11] 200 [itemN c13 0, itemN c13 1, itemN c13 2, itemN c13 3, itemN c13 4] ⟨[s.sl, .int .i64 l] ++ List.replicate (Tryd.f13.ntmps - 2) undef, [oO ob gr es]⟩ [false])
   = some (.normal, [s.sl, .int .i64 (IntKind.i64.wrap (l - s.len)), .int .i64 0], [oO ob gr es], Tryd.f13.ntmps, [(decide (IntKind.i64.wrap (l - s.len) < 0), false)]) := by obtain ⟨zz, b, off, n, c⟩ := s; cases zz <;> kernel_rfl
theorem e13x : viewU [1] (evL Tryd.prog M (ovN Tryd.prog M) [] [] [] [15] 200 (items loop13) ⟨mkT Tryd.f13.ntmps live13 [s.sl, .int .i64 l, .int .i64 k] z, [oO ob gr es]⟩ [false])
   = some (.exit 0, [.int .i64 l], [oO ob gr es], Tryd.f13.ntmps, [(decide (k < (s.len : Int)), false)]) := by obtain ⟨zz, b, off, n, c⟩ := s; cases zz <;> kernel_rfl
theorem e13e : viewU [4] (evL Tryd.prog M (ovN Tryd.prog M) [] [] [] [] 200 [itemN c13 6, itemN c13 7] ⟨mkT Tryd.f13.ntmps [1] [.int .i64 l] z, [oO ob gr es]⟩ [])
   = some (.ret, [.int .i64 l], [oO ob gr es], Tryd.f13.ntmps, []) := by kernel_rfl
variable (b off n c : Nat) (t : Out)
theorem e13s : viewU live13 (evL Tryd.prog M (ovI 58 (obC o t.sl) (fun _ => none) Tryd.prog M) [20, 21] [] [conSum 24 [.agg ⟨obC o t.sl⟩, .int .i64 l] (.int .i64 v) []] [15, 25] 400 (items loop13) ⟨mkT Tryd.f13.ntmps live13 [roS b off n c, .int .i64 l, .int .i64 k] z, [oO ob gr es]⟩ [true, false])
   = some (.normal, [roS b off n c, .int .i64 v, .int .i64 (IntKind.wrap .i64 (k + 1))], [oO ob gr es], Tryd.f13.ntmps, [(decide (k < (n : Int)), true), (inB k n, true), (rowB M b (off + k.toNat * 87) (obC o t.sl), true), (fact ([.agg ⟨obC o t.sl⟩, .int .i64 l] = [Value.agg ⟨obC o t.sl⟩, .int .i64 l]), true), (decide (v < 0), false)]) := by obtain ⟨zz, b, off, n, c⟩ := t; cases zz <;> kernel_rfl
theorem e13r : viewU [4] (evL Tryd.prog M (ovI 58 (obC o t.sl) (fun _ => none) Tryd.prog M) [20, 21] [] [conSum 24 [.agg ⟨obC o t.sl⟩, .int .i64 l] (.int .i64 v) []] [15, 25] 400 (items loop13) ⟨mkT Tryd.f13.ntmps live13 [roS b off n c, .int .i64 l, .int .i64 k] z, [oO ob gr es]⟩ [true, true])
   = some (.ret, [.int .i64 (-1)], [oO ob gr es], Tryd.f13.ntmps, [(decide (k < (n : Int)), true), (inB k n, true), (rowB M b (off + k.toNat * 87) (obC o t.sl), true), (fact ([.agg ⟨obC o t.sl⟩, .int .i64 l] = [Value.agg ⟨obC o t.sl⟩, .int .i64 l]), true), (decide (v < 0), true)]) := by obtain ⟨zz, b, off, n, c⟩ := t; cases zz <;> kernel_rfl
end
theorem sub29 {M : Mem} {s : Out} {l : Int} (h0 : 0 ≤ l ∧ l ≤ L20) (hs : s.len ≤ 9223372036854775807) : ACalls Tryd.prog M 29 [s.sl, .int .i64 l] [] (.int .i64 (subF l s.len)) [] [] := by
  have hw : IntKind.i64.wrap (l - s.len) = l - s.len := wrap_i64 (by unfold L20 at h0; omega) (by unfold L20 at h0; omega)
  unfold subF
  split
  · rename_i h
    exact acalls_of_evFU (ovI_ok _ _ _ _ _) nilC mix Tryd.func29 (hooksOk_nil _) (e29n M s l) (held_one (by rw [hw]; exact decide_eq_true h))
  · rename_i h
    have := acalls_of_evFU (ovI_ok _ _ _ _ _) nilC mix Tryd.func29 (hooksOk_nil _) (e29p M s l) (held_one (by rw [hw]; exact decide_eq_false h))
    rw [hw] at this
    exact this
theorem sub24 {M : Mem} {s : Out} {l : Int} {o : Ob} (h0 : 0 ≤ l ∧ l ≤ L20) (hs : s.len ≤ 9223372036854775807) : ACalls Tryd.prog M 24 [.agg ⟨obC o s.sl⟩, .int .i64 l] [] (.int .i64 (subF l s.len)) [] [] := by
  have hc := conSum_sound (M := M) Tryd.func29 (by kernel_rfl) (by kernel_rfl) (sub29 h0 hs)
  by_cases h : subF l s.len < 0
  · have e : subF l s.len = -1 := by
      unfold subF at h ⊢
      split
      · rfl
      · rename_i h2; rw [if_neg h2] at h; exact absurd h h2
    have := acalls_of_evFU (ovI_ok _ _ _ _ _) (consC hc nilC) mix Tryd.func24 (hooksOk_nil _) (e24n M s l _ o) (held_cons (fact_iff.2 rfl) (held_one (decide_eq_true h)))
    rw [e]; exact this
  · exact acalls_of_evFU (ovI_ok _ _ _ _ _) (consC hc nilC) mix Tryd.func24 (hooksOk_nil _) (e24p M s l _ o) (held_cons (fact_iff.2 rfl) (held_one (decide_eq_false h)))

/-- What is left behind the rows, or -1. -/
def szV (l : Int) : List Row → Int
  | [] => l
  | r :: R => if subF l r.2.len < 0 then -1 else szV (subF l r.2.len) R
def szN (l : Int) : List Row → Nat
  | [] => 0
  | r :: R => if subF l r.2.len < 0 then 0 else szN (subF l r.2.len) R + 1
theorem subF_le {l : Int} {n : Nat} (h0 : 0 ≤ l ∧ l ≤ L20) (h : ¬ subF l n < 0) : 0 ≤ subF l n ∧ subF l n ≤ L20 ∧ (n : Int) ≤ l := by
  unfold L20 at h0 ⊢
  unfold subF at h ⊢
  split at h
  · exact absurd (show (-1 : Int) < 0 by decide) h
  · rename_i h2; rw [if_neg h2]; omega
theorem szV_ok : ∀ {R : List Row} {l : Int}, 0 ≤ l ∧ l ≤ L20 → ¬ szV l R < 0 → ∀ r ∈ R, r.2.len ≤ 1048576 := by
  intro R
  induction R with
  | nil => intro l _ _ r hr; simp at hr
  | cons r0 R ih =>
    intro l h0 h r hr
    simp only [szV] at h
    split at h
    · exact absurd (show (-1 : Int) < 0 by decide) h
    · rename_i h2
      obtain ⟨h3, h4, h5⟩ := subF_le h0 h2
      rcases List.mem_cons.1 hr with rfl | hr
      · unfold L20 at h0; omega
      · exact ih ⟨h3, h4⟩ h r hr

/-- A report's rows, as an argument lies in memory. -/
structure RawIn (M : Mem) (s : Out) (R : List Row) : Prop where
  len : s.len = R.length
  big : R.length ≤ 9223372036854775807
  row : s.zz = false → ∀ (i : Nat) r, R[i]? = some r → RowAt M s.b (s.off + i * 87) r.cells ∨ (r.2.zz = true ∧ OddAt M s.b (s.off + i * 87) r.1)
  out : ∀ r ∈ R, r.2.len ≤ 9223372036854775807

def I13 (ob : List Value) (gr : Bool) (es : Nat) (M : Mem) (O : Org) (s : Out) (R : List Row) (l0 : Int) (i : Nat) (a : Go.Act) (w : World) : Prop :=
  ∃ l : Int, (0 ≤ l ∧ l ≤ L20) ∧ szV l (R.drop i) = szV l0 R ∧ szN l (R.drop i) + i = szN l0 R ∧ AtV M O Tryd.f13.ntmps live13 [s.sl, .int .i64 l, .int .i64 i] [oO ob gr es] [] (fun _ _ => False) a w
theorem szN_le : ∀ (R : List Row) (l : Int), szN l R ≤ R.length := by
  intro R
  induction R with
  | nil => intro l; exact Nat.le_refl _
  | cons r R ih =>
    intro l
    simp only [szN]
    split
    · exact Nat.zero_le _
    · simp only [List.length_cons]; have := ih (subF l r.2.len); omega
/-! ### a row with an odd empty slice -/
/-- A known answer at known arguments, by objects. -/
noncomputable def conSumO (f : FuncId) (args0 : List Value) (os0 : List AObj) (v : Value) : Sum :=
  { f := f, ro := true
    S := fun args os => some (v, os, [])
    C := fun args os => [(fact (args = args0 ∧ os = os0), true)] }
theorem conSumO_sound {M : Mem} {f : FuncId} {fn : Func} (hf : Tryd.prog.funcs[f]? = some fn) (hn : (fn.name == "runtime.NumGoroutine") = false) (hb : fn.body.isSome = true) {args0 : List Value} {os0 : List AObj} {v : Value} (h : ACalls Tryd.prog M f args0 os0 v os0 []) : (conSumO f args0 os0 v).SoundC Tryd.prog M := by
  refine sumC_sound hf hn hb fun args os v' os' ns' hs hp => ?_
  simp only [conSumO] at hs hp ⊢
  cases hs
  obtain ⟨rfl, rfl⟩ := fact_iff.1 (hp (fact (args = args0 ∧ os = os0), true) (List.Mem.head _))
  exact ⟨h, fun _ => rfl⟩
section
variable (ob : List Value) (gr : Bool) (es S : Nat) (M : Mem) (l : Int) (o : Ob) (k : Int) (z : Nat → Value) (s : Out) (u v : Value) (b off n c : Nat)
theorem e29w : evFU Tryd.prog M (ovN Tryd.prog M) [] [] [] [10] 200 Tryd.f29 [oA S, .int .i64 l] [⟨ob, gr, es, true⟩] [false] = some ((.int .i64 (IntKind.i64.wrap (l - (0 : Nat))), [⟨ob, gr, es, true⟩], []), [(decide (IntKind.i64.wrap (l - (0 : Nat)) < 0), false)]) := by kernel_rfl
theorem e24w : evFU Tryd.prog M (ovN Tryd.prog M) [] [] [conSumO 29 [oA S, .int .i64 l] [⟨ob, gr, es, true⟩] (.int .i64 l)] [10] 200 Tryd.f24 [.agg ⟨obC o (oA S)⟩, .int .i64 l] [⟨ob, gr, es, true⟩] [false] = some ((.int .i64 l, [⟨ob, gr, es, true⟩], []), [(fact ([oA S, .int .i64 l] = [oA S, .int .i64 l] ∧ [(⟨ob, gr, es, true⟩ : AObj)] = [⟨ob, gr, es, true⟩]), true), (decide (l < 0), false)]) := by kernel_rfl
theorem r7o_f : drawOf (itemN b13 0) = false := by kernel_rfl
theorem r7o_r : List.range (opsOf (itemN b13 0)).size = [0, 1, 2] ++ (3 :: ([4] ++ (5 :: ([6] ++ [])))) := by kernel_rfl
theorem r7o_o : (opsOf (itemN b13 0))[3]? = some (opAt (itemN b13 0) 3) := by kernel_rfl
theorem r7o_g : (opAt (itemN b13 0) 3).guard = none := by kernel_rfl
theorem r7o_d : (opAt (itemN b13 0) 3).dst = some 21 := by kernel_rfl
theorem r7o_p : (opAt (itemN b13 0) 3).op = .load 58 (.tmp 20) := by kernel_rfl
theorem r7c_o : (opsOf (itemN b13 0))[5]? = some (opAt (itemN b13 0) 5) := by kernel_rfl
theorem r7c_g : (opAt (itemN b13 0) 5).guard = none := by kernel_rfl
theorem r7c_d : (opAt (itemN b13 0) 5).dst = some 23 := by kernel_rfl
theorem r7c_p : (opAt (itemN b13 0) 5).op = .call ⟨.value (.func 24), #[.tmp 21, .tmp 22], #[58, 3]⟩ := by kernel_rfl
theorem enters24 : Go.Ab.Enters Tryd.prog 24 := ⟨_, Tryd.func24, by kernel_rfl, by kernel_rfl⟩
abbrev v13 (b off n c : Nat) (l k : Int) : List Value := [roS b off n c, .int .i64 l, .int .i64 k]
theorem o13a : viewU live13 (evL Tryd.prog M (ovN Tryd.prog M) [] [] [] [15] 200 [itemN loop13 0, itemN loop13 1] ⟨mkT Tryd.f13.ntmps live13 (v13 b off n c l k) z, [oO ob gr es]⟩ [true])
   = some (.normal, v13 b off n c l k, [oO ob gr es], Tryd.f13.ntmps, [(decide (k < (n : Int)), true)]) := by kernel_rfl
theorem o13b : viewW (live13 ++ [20]) (rtraceU Tryd.prog M (ovN Tryd.prog M) [20] [] [] (fun l => l) (opsOf (itemN b13 0)) [0, 1, 2] ⟨mkT Tryd.f13.ntmps live13 (v13 b off n c l k) z, [oO ob gr es]⟩ [])
   = some (v13 b off n c l k ++ [.pointer (some ⟨b, off + k.toNat * 87, none⟩)], [oO ob gr es], Tryd.f13.ntmps, [(inB k n, true)]) := by kernel_rfl
theorem o13c : lookT (aput (mkT Tryd.f13.ntmps (live13 ++ [20]) (v13 b off n c l k ++ [u]) z) (some 21) v) (live13 ++ [21]) = v13 b off n c l k ++ [v] := by kernel_rfl
theorem o13d : viewW (live13 ++ [21, 22]) (rtraceU Tryd.prog M (ovN Tryd.prog M) [] [] [] (fun l => l) (opsOf (itemN b13 0)) [4] ⟨mkT Tryd.f13.ntmps (live13 ++ [21]) (v13 b off n c l k ++ [.agg ⟨obC o (oA S)⟩]) z, [oO ob gr es]⟩ [])
   = some (v13 b off n c l k ++ [.agg ⟨obC o (oA S)⟩, .int .i64 l], [oO ob gr es], Tryd.f13.ntmps, []) := by kernel_rfl
theorem o13e : lookT (aput (mkT Tryd.f13.ntmps (live13 ++ [21, 22]) (v13 b off n c l k ++ [.agg ⟨obC o (oA S)⟩, .int .i64 l]) z) (some 23) v) (live13 ++ [23]) = v13 b off n c l k ++ [v] := by kernel_rfl
theorem o13f : viewW live13 (rtraceU Tryd.prog M (ovN Tryd.prog M) [] [] [] (fun l => l) (opsOf (itemN b13 0)) [6] ⟨mkT Tryd.f13.ntmps (live13 ++ [23]) (v13 b off n c l k ++ [.int .i64 l]) z, [oO ob gr es]⟩ [])
   = some (v13 b off n c l k, [oO ob gr es], Tryd.f13.ntmps, []) := by kernel_rfl
theorem o13g : viewU live13 (evL Tryd.prog M (ovN Tryd.prog M) [] [] [] [25] 200 [itemN b13 1, itemN b13 2] ⟨mkT Tryd.f13.ntmps live13 (v13 b off n c l k) z, [oO ob gr es]⟩ [false])
   = some (.normal, v13 b off n c l k, [oO ob gr es], Tryd.f13.ntmps, [(decide (l < 0), false)]) := by kernel_rfl
theorem o13h : viewU live13 (evL Tryd.prog M (ovN Tryd.prog M) [] [] [] [] 200 [itemN loop13 3] ⟨mkT Tryd.f13.ntmps live13 (v13 b off n c l k) z, [oO ob gr es]⟩ [])
   = some (.normal, v13 b off n c l (IntKind.wrap .i64 (k + 1)), [oO ob gr es], Tryd.f13.ntmps, []) := by kernel_rfl
end
theorem odd24 {ob : List Value} {gr : Bool} {es S : Nat} {M : Mem} {l : Int} {o : Ob} (h0 : 0 ≤ l ∧ l ≤ L20) : ACalls Tryd.prog M 24 [.agg ⟨obC o (oA S)⟩, .int .i64 l] [⟨ob, gr, es, true⟩] (.int .i64 l) [⟨ob, gr, es, true⟩] [] := by
  have hw : IntKind.i64.wrap (l - (0 : Nat)) = l := by rw [wrap_i64 (by simp; omega) (by unfold L20 at h0; simp; omega)]; simp
  have h29 := acalls_of_evFU (ovI_ok _ _ _ _ _) nilC mix Tryd.func29 (hooksOk_nil _) (e29w ob gr es S M l) (held_one (by rw [hw]; exact decide_eq_false (by omega)))
  rw [hw] at h29
  exact acalls_of_evFU (ovI_ok _ _ _ _ _) (consC (conSumO_sound Tryd.func29 (by kernel_rfl) (by kernel_rfl) h29) nilC) mix Tryd.func24 (hooksOk_nil _) (e24w ob gr es S M l o) (held_cons (fact_iff.2 ⟨rfl, rfl⟩) (held_one (decide_eq_false (by omega))))
theorem odd13 {ob : List Value} {gr : Bool} {es : Nat} {M : Mem} {O : Org} {b off n c : Nat} {l : Int} {i : Nat} {o : Ob} (h0 : 0 ≤ l ∧ l ≤ L20) (hi : i < n) (hodd : OddAt M b (off + i * 87) o) {a : Go.Act} {w : World} (h : AtV M O Tryd.f13.ntmps live13 (v13 b off n c l i) [oO ob gr es] [] (fun _ _ => False) a w) :
    loop13.wp Tryd.prog (fun e a' w' => e = .normal ∧ AtV M O Tryd.f13.ntmps live13 (v13 b off n c l (IntKind.wrap .i64 ((i : Int) + 1))) [oO ob gr es] [] (fun _ _ => False) a' w') a w := by
  obtain ⟨a0, hrange⟩ := hodd.cells
  refine wp_items loop13 ?_
  rw [itemsL13]
  show wpL Tryd.prog _ ([itemN loop13 0, itemN loop13 1] ++ [.block 1 b13, itemN loop13 3]) a w
  refine h.items (ovI_ok _ _ _ _ _) nilC mix (fun c _ => hooksOk_nil c) (fun z => o13a ob gr es M l i z b off n c) (held_one (decide_eq_true (by omega))) rfl (fun _ a1 w1 h1 => ?_) fun hne => absurd rfl hne
  refine wpL_cons (R := fun a' w' => AtV M O Tryd.f13.ntmps live13 (v13 b off n c l i) [oO ob gr es] [] (fun _ _ => False) a' w') (wp_block_items ?_) fun a2 w2 h2 => ?_
  · rw [itemsB13]
    show (itemN b13 0).wp Tryd.prog (Exit.then (wpL Tryd.prog _ [itemN b13 1, itemN b13 2]) _) a1 w1
    refine wp_rgn r7o_f r7o_r ?_
    refine h1.opsU (ovI_ok _ _ _ _ _) nilC (fun z => o13b ob gr es M l i z b off n c) (held_one (by simp [inB]; omega)) rfl fun a3 w3 h3 => ?_
    refine h3.loadBy r7o_o r7o_g r7o_p (b := b) (off := off + (i : Int).toNat * 87) (fun z => by kernel_rfl) (rs := obC o (.slice (some a0) 0 0)) (us := obC o (oA ob.length)) Tryd.underlying58 rfl (by rw [obC_length]; exact info58) (fun m hr => by rw [Int.toNat_natCast]; exact hrange hr) (fun m hr => vrel_odd (x := ⟨ob, gr, es, true⟩) rfl) (live' := live13 ++ [21]) (V' := v13 b off n c l i ++ [.agg ⟨obC o (oA ob.length)⟩]) (fun z => by rw [r7o_d]; exact o13c l i z _ _ b off n c) fun a4 h4 => ?_
    refine h4.opsU (ovI_ok _ _ _ _ _) nilC (fun z => o13d ob gr es ob.length M l o i z b off n c) (fun x hx => by cases hx) rfl fun a5 w5 h5 => ?_
    refine h5.callG (L := [0]) r7c_o r7c_g r7c_p (fun z => by kernel_rfl) enters24 (us := [.agg ⟨obC o (oA ob.length)⟩, .int .i64 l]) (fun z => by kernel_rfl) rfl (objs := [⟨ob, gr, es, true⟩]) (lo := [⟨ob, gr, es, true⟩]) rfl (by kernel_rfl) (largs := [.agg ⟨obC o (oA ob.length)⟩, .int .i64 l]) (by kernel_rfl) (R := fun v _ => v = .int .i64 l) (fun v g hR => by subst hR; rfl) ((odd24 (S := ob.length) (o := o) h0).toG.mono fun v o1 n1 g ⟨h1, h2, h3, _⟩ => ⟨h2, h3, h1⟩) rfl (live' := live13 ++ [23]) (V' := fun v => v13 b off n c l i ++ [v]) (fun z v => by rw [r7c_d]; exact o13e ob.length l o i z v b off n c) fun v g1 w6 hR h6 => ?_
    subst hR
    refine h6.opsU (ovI_ok _ _ _ _ _) nilC (fun z => o13f ob gr es M l i z b off n c) (fun x hx => by cases hx) rfl fun a7 w7 h7 => ?_
    show wpL Tryd.prog _ ([itemN b13 1, itemN b13 2] ++ []) a7 w7
    refine h7.items (ovI_ok _ _ _ _ _) nilC mix (fun c _ => hooksOk_nil c) (fun z => o13g ob gr es M l i z b off n c) (held_one (decide_eq_false (by omega))) rfl (fun _ a8 w8 h8 => ?_) fun hne => absurd rfl hne
    exact ⟨rfl, h8.weaken fun b x hx => hx.elim⟩
  · show wpL Tryd.prog _ ([itemN loop13 3] ++ []) a2 w2
    refine h2.items (ovI_ok _ _ _ _ _) nilC mix (fun c _ => hooksOk_nil c) (fun z => o13h ob gr es M l i z b off n c) (fun x hx => by cases hx) rfl (fun _ a3 w3 h3 => ?_) fun hne => absurd rfl hne
    exact ⟨rfl, h3⟩

theorem round13 {ob : List Value} {gr : Bool} {es : Nat} {M : Mem} {O : Org} {s : Out} {R : List Row} (h : RawIn M s R) (hn : R.length ≤ 1048576) {l0 : Int} {i : Nat} (hi : i < szN l0 R) {a : Go.Act} {w : World} (hI : I13 ob gr es M O s R l0 i a w) :
    loop13.wp Tryd.prog (fun e a' w' => e = .normal ∧ I13 ob gr es M O s R l0 (i + 1) a' w') a w := by
  obtain ⟨l1, hl1, hV, hN, hI⟩ := hI
  have hle := szN_le R l0
  have hiR : i < R.length := by omega
  obtain ⟨r, hr⟩ : ∃ r, R[i]? = some r := ⟨_, List.getElem?_eq_getElem hiR⟩
  have hdr : R.drop i = r :: R.drop (i + 1) := by
    have := (List.getElem?_eq_some_iff.1 hr).2
    rw [← this]; exact List.drop_eq_getElem_cons hiR
  rw [hdr] at hV hN
  simp only [szV, szN] at hV hN
  split at hN
  · omega
  · rename_i hge
    rw [if_neg hge] at hV
    obtain ⟨k1, k2, k3⟩ := subF_le hl1 hge
    obtain ⟨zz, b, off, n, c⟩ := s
    cases zz with
    | true => have hl := h.len; replace hl : 0 = R.length := hl; omega
    | false =>
      have hlen : n = R.length := h.len
      have hout := h.out r (List.mem_of_getElem? hr)
      rcases h.row rfl i r hr with hrow | ⟨hz, hodd⟩
      case inr =>
        have hlen0 : r.2.len = 0 := by unfold Out.len; rw [hz]; rfl
        have hsub : subF l1 r.2.len = l1 := by unfold subF; rw [hlen0, if_neg (by simp; omega)]; simp
        rw [hsub] at hV hN
        have h3 := odd13 (b := b) (off := off) (n := n) (c := c) hl1 (by omega) hodd hI
        refine wp_mono h3 ?_
        rintro e a3 w3 ⟨rfl, h4⟩
        rw [nextC hiR hn] at h4
        exact ⟨rfl, _, hl1, hV, by omega, h4⟩
      have hp : Held [(decide ((i : Int) < (n : Int)), true), (inB i n, true), (rowB M b (off + (i : Int).toNat * 87) (obC r.1 r.2.sl), true), (fact ([.agg ⟨obC r.1 r.2.sl⟩, .int .i64 l1] = [Value.agg ⟨obC r.1 r.2.sl⟩, .int .i64 l1]), true), (decide (subF l1 r.2.len < 0), false)] :=
        held_cons (decide_eq_true (by omega)) (held_cons (by simp [inB]; omega) (held_cons (rowB_iff.2 (by rw [Int.toNat_natCast]; exact hrow)) (held_cons (fact_iff.2 rfl) (held_one (decide_eq_false hge)))))
      refine wp_items loop13 (wpL_end ?_)
      refine hI.items (ovI_ok _ _ _ _ _) (consC (conSum_sound Tryd.func24 (by kernel_rfl) (by kernel_rfl) (sub24 (o := r.1) hl1 hout)) nilC) mix (fun c _ => hooksOk_nil c) (fun z => e13s ob gr es M l1 _ r.1 i z b off n c r.2) hp rfl (fun _ a3 w3 h3 => ?_) fun hne => absurd rfl hne
      rw [nextC hiR hn] at h3
      exact ⟨rfl, _, ⟨k1, k2⟩, hV, by omega, h3⟩

theorem last13 {ob : List Value} {gr : Bool} {es : Nat} {M : Mem} {O : Org} {s : Out} {R : List Row} (h : RawIn M s R) (hn : R.length ≤ 1048576) {l0 : Int} {i : Nat} (hi : i = szN l0 R) {a : Go.Act} {w : World} (hI : I13 ob gr es M O s R l0 i a w) :
    loop13.wp Tryd.prog (fun e a' w' => (e = .exit 0 ∧ AtV M O Tryd.f13.ntmps [1] [.int .i64 (szV l0 R)] [oO ob gr es] [] (fun _ _ => False) a' w') ∨ (e = .ret ∧ szV l0 R = -1 ∧ AtV M O Tryd.f13.ntmps [4] [.int .i64 (-1)] [oO ob gr es] [] (fun _ _ => False) a' w')) a w := by
  obtain ⟨l1, hl1, hV, hN, hI⟩ := hI
  have hle := szN_le R l0
  refine wp_items loop13 (wpL_end ?_)
  by_cases hge : R.length ≤ i
  · rw [List.drop_eq_nil_iff.2 hge] at hV
    simp only [szV] at hV
    refine hI.items (ovI_ok _ _ _ _ _) nilC mix (fun c _ => hooksOk_nil c) (fun z => e13x ob gr es M s l1 i z) (held_one (decide_eq_false (by rw [h.len]; omega))) rfl (fun he => by cases he) fun _ a3 w3 h3 => ?_
    rw [hV] at h3
    exact .inl ⟨rfl, h3⟩
  · have hlt : i < R.length := by omega
    obtain ⟨r, hr⟩ : ∃ r, R[i]? = some r := ⟨_, List.getElem?_eq_getElem hlt⟩
    have hdr : R.drop i = r :: R.drop (i + 1) := by
      have := (List.getElem?_eq_some_iff.1 hr).2
      rw [← this]; exact List.drop_eq_getElem_cons hlt
    rw [hdr] at hV hN
    simp only [szV, szN] at hV hN
    split at hV
    · rename_i hneg2
      obtain ⟨zz, b, off, n, c⟩ := s
      cases zz with
      | true => have hl := h.len; replace hl : 0 = R.length := hl; omega
      | false =>
        have hlen : n = R.length := h.len
        have hout := h.out r (List.mem_of_getElem? hr)
        rcases h.row rfl i r hr with hrow | ⟨hz, hodd⟩
        case inr =>
          have hlen0 : r.2.len = 0 := by unfold Out.len; rw [hz]; rfl
          unfold subF at hneg2
          rw [hlen0, if_neg (by simp; omega)] at hneg2
          simp at hneg2
          omega
        have hp : Held [(decide ((i : Int) < (n : Int)), true), (inB i n, true), (rowB M b (off + (i : Int).toNat * 87) (obC r.1 r.2.sl), true), (fact ([.agg ⟨obC r.1 r.2.sl⟩, .int .i64 l1] = [Value.agg ⟨obC r.1 r.2.sl⟩, .int .i64 l1]), true), (decide (subF l1 r.2.len < 0), true)] :=
          held_cons (decide_eq_true (by omega)) (held_cons (by simp [inB]; omega) (held_cons (rowB_iff.2 (by rw [Int.toNat_natCast]; exact hrow)) (held_cons (fact_iff.2 rfl) (held_one (decide_eq_true hneg2)))))
        refine hI.items (ovI_ok _ _ _ _ _) (consC (conSum_sound Tryd.func24 (by kernel_rfl) (by kernel_rfl) (sub24 (o := r.1) hl1 hout)) nilC) mix (fun c _ => hooksOk_nil c) (fun z => e13r ob gr es M l1 _ r.1 i z b off n c r.2) hp rfl (fun he => by cases he) fun _ a3 w3 h3 => ?_
        exact .inr ⟨rfl, hV.symm, h3⟩
    · rename_i hge2
      rw [if_neg hge2] at hN
      omega

theorem sz13 {ob : List Value} {gr : Bool} {es : Nat} {M : Mem} {s : Out} {R : List Row} (h : RawIn M s R) {l : Int} (h0 : 0 ≤ l ∧ l ≤ L20) : ACalls Tryd.prog M 13 [s.sl, .int .i64 l] [⟨ob, gr, es, true⟩] (.int .i64 (if subF l R.length < 0 then -1 else szV (subF l R.length) R)) [⟨ob, gr, es, true⟩] [] := by
  have hw : IntKind.i64.wrap (l - s.len) = l - s.len := wrap_i64 (by have := h.len; have := h.big; unfold L20 at h0; omega) (by unfold L20 at h0; omega)
  refine acalls_of_at Tryd.func13 body13 rfl fun O a w hO hat => ?_
  refine wp_items c13 ?_
  rw [items13]
  by_cases hneg : subF l R.length < 0
  · rw [if_pos hneg]
    have hlt : l - (s.len : Int) < 0 := by
      rw [h.len]; unfold subF at hneg
      split at hneg
      · assumption
      · rename_i h2; exact hneg
    show wpL Tryd.prog _ ([itemN c13 0, itemN c13 1, itemN c13 2, itemN c13 3] ++ [itemN c13 4, .block 0 (.loop loop13), itemN c13 6, itemN c13 7]) a w
    refine hat.items (ovI_ok _ _ _ _ _) nilC mix (fun c _ => hooksOk_nil c) (e13n ob gr es M s l) (held_one (by rw [hw]; exact decide_eq_true hlt)) rfl (fun he => by cases he) fun _ a3 w3 h3 => ?_
    obtain ⟨z, h3⟩ := h3
    exact ⟨.inr rfl, _, _, _, .int .i64 (-1), [⟨ob, gr, es, true⟩], [], h3, by kernel_rfl, rfl, rfl, rfl⟩
  · rw [if_neg hneg]
    obtain ⟨g1, g2, g3⟩ := subF_le h0 hneg
    have hn : R.length ≤ 1048576 := by unfold L20 at h0; omega
    have hsub : l - (s.len : Int) = subF l R.length := by
      rw [h.len]; unfold subF at hneg ⊢
      split at hneg
      · exact absurd (show (-1 : Int) < 0 by decide) hneg
      · rename_i h2; rw [if_neg h2]
    show wpL Tryd.prog _ ([itemN c13 0, itemN c13 1, itemN c13 2, itemN c13 3, itemN c13 4] ++ [.block 0 (.loop loop13), itemN c13 6, itemN c13 7]) a w
    refine hat.items (ovI_ok _ _ _ _ _) nilC mix (fun c _ => hooksOk_nil c) (e13p ob gr es M s l) (held_one (by rw [hw, hsub]; exact decide_eq_false hneg)) rfl (fun _ a1 w1 h1 => ?_) fun hne => absurd rfl hne
    rw [hw, hsub] at h1
    show (Code.block 0 (.loop loop13)).wp Tryd.prog (Exit.then (wpL Tryd.prog _ [itemN c13 6, itemN c13 7]) _) a1 w1
    refine wp_block (wp_loop_idx (I13 ob gr es M O s R (subF l R.length)) (szN (subF l R.length) R) ⟨_, ⟨g1, g2⟩, rfl, rfl, h1⟩ (fun i a w hi hI => round13 h hn hi hI) fun a w hI => wp_mono (last13 h hn rfl hI) ?_)
    rintro e a3 w3 (⟨rfl, h3⟩ | ⟨rfl, hV, h3⟩)
    · refine ⟨by simp, ?_⟩
      show wpL Tryd.prog _ ([itemN c13 6, itemN c13 7] ++ []) a3 w3
      refine h3.items (ovI_ok _ _ _ _ _) nilC mix (fun c _ => hooksOk_nil c) (fun z => e13e ob gr es M _ z) (fun x hx => by cases hx) rfl (fun he => by cases he) fun _ a4 w4 h4 => ?_
      obtain ⟨z, h4⟩ := h4
      exact ⟨.inr rfl, _, _, _, .int .i64 (szV (subF l R.length) R), [⟨ob, gr, es, true⟩], [], h4, by kernel_rfl, rfl, rfl, rfl⟩
    · refine ⟨by simp, ?_⟩
      obtain ⟨z, h3⟩ := h3
      exact ⟨.inr rfl, _, _, _, .int .i64 (-1), [⟨ob, gr, es, true⟩], [], h3, by kernel_rfl, by rw [hV], rfl, rfl⟩
def szW (l : Int) (R : List Row) : Int := if subF l R.length < 0 then -1 else szV (subF l R.length) R

/-! ### szReport -/
noncomputable def c4 : Code := Tryd.f4.body.getD .skip
theorem body4 : Tryd.f4.body = some c4 := by kernel_rfl
theorem items4 : items c4 = [itemN c4 0, itemN c4 1, itemN c4 2, itemN c4 3, itemN c4 4, itemN c4 5] := by kernel_rfl
theorem r4_f : drawOf (itemN c4 1) = false := by kernel_rfl
theorem r4_r : List.range (opsOf (itemN c4 1)).size = [0, 1, 2] ++ (3 :: ([4] ++ [])) := by kernel_rfl
theorem r4_o : (opsOf (itemN c4 1))[3]? = some (opAt (itemN c4 1) 3) := by kernel_rfl
theorem r4_g : (opAt (itemN c4 1) 3).guard = none := by kernel_rfl
theorem r4_d : (opAt (itemN c4 1) 3).dst = some 8 := by kernel_rfl
theorem r4_p : (opAt (itemN c4 1) 3).op = .call ⟨.value (.func 13), #[.tmp 6, .tmp 7], #[22, 3]⟩ := by kernel_rfl
theorem enters13 : Go.Ab.Enters Tryd.prog 13 := ⟨_, Tryd.func13, by kernel_rfl, by kernel_rfl⟩
abbrev bx4 (s : Out) (dh code : Int) : Option AObj := some ⟨repL s.sl dh code, false, 1, true⟩
section
variable (M : Mem) (s : Out) (l v dh code : Int) (z : Nat → Value) (u u' : Value)
theorem e4a : viewU [1, 2] (evL Tryd.prog M (ovN Tryd.prog M) [] [] [] [] 200 [itemN c4 0] ⟨[.agg ⟨repL s.sl dh code⟩, .int .i64 l] ++ List.replicate (Tryd.f4.ntmps - 2) undef, []⟩ [])
   = some (.normal, [.int .i64 l, p3 0], [boxO (repL s.sl dh code)], Tryd.f4.ntmps, []) := by obtain ⟨zz, b, off, n, c⟩ := s; cases zz <;> kernel_rfl
theorem e4b : viewW [6, 7] (rtraceU Tryd.prog M (ovN Tryd.prog M) [] [] [] (fun l => l) (opsOf (itemN c4 1)) [0, 1, 2] ⟨mkT Tryd.f4.ntmps [1, 2] [.int .i64 l, p3 0] z, [bx4 s dh code]⟩ [])
   = some ([s.sl, .int .i64 l], [bx4 s dh code], Tryd.f4.ntmps, []) := by obtain ⟨zz, b, off, n, c⟩ := s; cases zz <;> kernel_rfl
theorem e4c : lookT (aput (mkT Tryd.f4.ntmps [6, 7] [u, .int .i64 l] z) (some 8) u') [8] = [u'] := by kernel_rfl
theorem e4d : viewW [1] (rtraceU Tryd.prog M (ovN Tryd.prog M) [] [] [] (fun l => l) (opsOf (itemN c4 1)) [4] ⟨mkT Tryd.f4.ntmps [8] [.int .i64 v] z, [bx4 s dh code]⟩ [])
   = some ([.int .i64 v], [bx4 s dh code], Tryd.f4.ntmps, []) := by obtain ⟨zz, b, off, n, c⟩ := s; cases zz <;> kernel_rfl
theorem e4n : viewU [4] (evL Tryd.prog M (ovN Tryd.prog M) [] [] [] [10] 200 [itemN c4 2, itemN c4 3, itemN c4 4, itemN c4 5] ⟨mkT Tryd.f4.ntmps [1] [.int .i64 v] z, [bx4 s dh code]⟩ [true])
   = some (.ret, [.int .i64 (-1)], [bx4 s dh code], Tryd.f4.ntmps, [(decide (v < 0), true)]) := by obtain ⟨zz, b, off, n, c⟩ := s; cases zz <;> kernel_rfl
theorem e4p : viewU [4] (evL Tryd.prog M (ovN Tryd.prog M) [] [] [] [10] 200 [itemN c4 2, itemN c4 3, itemN c4 4, itemN c4 5] ⟨mkT Tryd.f4.ntmps [1] [.int .i64 v] z, [bx4 s dh code]⟩ [false])
   = some (.ret, [.int .i64 v], [bx4 s dh code], Tryd.f4.ntmps, [(decide (v < 0), false)]) := by obtain ⟨zz, b, off, n, c⟩ := s; cases zz <;> kernel_rfl
end
theorem repL_flat (s : Out) (dh code : Int) : groundL (repL s.sl dh code) = true := by obtain ⟨zz, b, off, n, c⟩ := s; cases zz <;> rfl
theorem s_ren0 (s : Out) (l : Int) : renL (idx [0]) [s.sl, .int .i64 l] = some [s.sl, .int .i64 l] := by obtain ⟨zz, b, off, n, c⟩ := s; cases zz <;> rfl
theorem sz4' {M : Mem} {s : Out} {R : List Row} {dh code : Int} (h : RawIn M s R) : ACalls Tryd.prog M 4 [.agg ⟨repL s.sl dh code⟩, .int .i64 L20] [] (.int .i64 (if szW L20 R < 0 then -1 else szW L20 R)) [] [] := by
  have h0 : (0 : Int) ≤ L20 ∧ L20 ≤ L20 := by unfold L20; omega
  refine acalls_of_at Tryd.func4 body4 rfl fun O a w hO hat => ?_
  refine wp_items c4 ?_
  rw [items4]
  show wpL Tryd.prog _ ([itemN c4 0] ++ [itemN c4 1, itemN c4 2, itemN c4 3, itemN c4 4, itemN c4 5]) a w
  refine hat.items (ovI_ok _ _ _ _ _) nilC mix (fun c _ => hooksOk_nil c) (e4a M s L20 dh code) (fun x hx => by cases hx) rfl (fun _ a1 w1 h1 => ?_) fun hne => absurd rfl hne
  have h1 := h1.flatten (i := 0) rfl (by rw [hO]; rfl) (repL_flat s dh code)
  show (itemN c4 1).wp Tryd.prog (Exit.then (wpL Tryd.prog _ [itemN c4 2, itemN c4 3, itemN c4 4, itemN c4 5]) _) a1 w1
  refine wp_rgn r4_f r4_r ?_
  refine h1.opsU (ovI_ok _ _ _ _ _) nilC (fun z => e4b M s L20 dh code z) (fun x hx => by cases hx) rfl fun a2 w2 h2 => ?_
  refine h2.callG (L := [0]) r4_o r4_g r4_p (fun z => by kernel_rfl) enters13 (us := [s.sl, .int .i64 L20]) (fun z => by kernel_rfl) rfl (objs := [⟨repL s.sl dh code, false, 1, true⟩]) (lo := [⟨repL s.sl dh code, false, 1, true⟩]) rfl (by kernel_rfl) (largs := [s.sl, .int .i64 L20]) (s_ren0 s L20) (R := fun v _ => v = .int .i64 (szW L20 R)) (fun v g hR => by subst hR; rfl) ((sz13 h h0).toG.mono fun v o1 n1 g ⟨h1, h2, h3, _⟩ => ⟨h2, h3, h1⟩) rfl (live' := [8]) (V' := fun v => [v]) (fun z v => by rw [r4_d]; exact e4c L20 z _ v) fun v g1 w3 hR h3 => ?_
  subst hR
  refine h3.opsU (ovI_ok _ _ _ _ _) nilC (fun z => e4d M s _ dh code z) (fun x hx => by cases hx) rfl fun a4 w4 h4 => ?_
  show wpL Tryd.prog _ ([itemN c4 2, itemN c4 3, itemN c4 4, itemN c4 5] ++ []) a4 w4
  have h4 := h4.weaken (g' := fun _ _ => False) fun b x hx => hx.elim
  by_cases hneg : szW L20 R < 0
  · rw [if_pos hneg]
    refine h4.items (ovI_ok _ _ _ _ _) nilC mix (fun c _ => hooksOk_nil c) (fun z => e4n M s _ dh code z) (held_one (decide_eq_true hneg)) rfl (fun he => by cases he) fun _ a5 w5 h5 => ?_
    obtain ⟨z, h5⟩ := h5
    exact ⟨.inr rfl, _, _, _, .int .i64 (-1), [], [], h5, by kernel_rfl, rfl, rfl, rfl⟩
  · rw [if_neg hneg]
    refine h4.items (ovI_ok _ _ _ _ _) nilC mix (fun c _ => hooksOk_nil c) (fun z => e4p M s _ dh code z) (held_one (decide_eq_false hneg)) rfl (fun he => by cases he) fun _ a5 w5 h5 => ?_
    obtain ⟨z, h5⟩ := h5
    exact ⟨.inr rfl, _, _, _, .int .i64 (szW L20 R), [], [], h5, by kernel_rfl, rfl, rfl, rfl⟩
theorem sz4 {M : Mem} {s : Out} {R : List Row} {dh code : Int} (h : RawIn M s R) : ∃ v : Int, ACalls Tryd.prog M 4 [.agg ⟨repL s.sl dh code⟩, .int .i64 L20] [] (.int .i64 v) [] [] ∧ (¬ v < 0 → R.length ≤ 1048576 ∧ ∀ r ∈ R, r.2.len ≤ 1048576) := by
  have h0 : (0 : Int) ≤ L20 ∧ L20 ≤ L20 := by unfold L20; omega
  refine ⟨_, sz4' h, fun hv => ?_⟩
  split at hv
  · exact absurd (by decide) hv
  · rename_i hneg
    unfold szW at hneg
    split at hneg
    · exact absurd (by decide) hneg
    · rename_i h2
      obtain ⟨k1, k2, k3⟩ := subF_le h0 h2
      exact ⟨by unfold L20 at k3; omega, szV_ok ⟨k1, k2⟩ hneg⟩
end Go.Proofs.YtfkdcpinajnbfaaDoor
